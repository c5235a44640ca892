/- A part of the walk: what this seat's statements share. -/
import Derived.Test.YtdiljpnfochndaaZG6
import Derived.Test.YtdiljpnfochndaaZG7
import Derived.Test.YtdiljpnfochndaaZG3
import Derived.Test.YtdiljpnfochndaaZG9
import Derived.Test.YtdiljpnfochndaaZG4
set_option linter.unusedVariables false
set_option linter.unusedSimpArgs false
set_option linter.unusedSectionVars false
/- The turned tree. -/
namespace Go.Proofs.Ytdiljpnfochndaa.HP
def turnM (l : List Nd) : List Nd := ([1], 0) :: l.map fun x => (x.1.map (· + 1), -x.2)
theorem turn_len (l : List Nd) : (turnM l).length = l.length + 1 := by simp [turnM]
theorem turn_at (l : List Nd) (i : Nat) (h : i < l.length) : (turnM l).getD (i + 1) ([], 0) = ((kid l i).map (· + 1), - wor l i) := by
  simp [turnM, kid, wor, List.getD_eq_getElem?_getD, h]
theorem turn_kid0 (l : List Nd) : kid (turnM l) 0 = [1] := rfl
theorem turn_kid (l : List Nd) (i : Nat) (h : i < l.length) : kid (turnM l) ((i : Int) + 1) = (kid l i).map (· + 1) := by
  show ((turnM l).getD ((i : Int) + 1).toNat ([], 0)).1 = _
  rw [show ((i : Int) + 1).toNat = i + 1 by omega, turn_at l i h]
theorem turn_wor (l : List Nd) (i : Nat) (h : i < l.length) : wor (turnM l) ((i : Int) + 1) = - wor l i := by
  show ((turnM l).getD ((i : Int) + 1).toNat ([], 0)).2 = _
  rw [show ((i : Int) + 1).toNat = i + 1 by omega, turn_at l i h]
theorem turn_leaf (l : List Nd) (i : Nat) (h : i < l.length) : leafB (turnM l) ((i : Int) + 1) = leafB l i := by
  unfold leafB
  rw [turn_kid l i h]
  cases kid l i <;> rfl
theorem map_getD (xs : List Int) (b : Nat) (h : b < xs.length) : (xs.map (· + 1)).getD b 0 = xs.getD b 0 + 1 := by
  simp [List.getD_eq_getElem?_getD, h]
theorem turn_k (l : List Nd) (a b : Nat) (ha : a < l.length) (hb : b < (kid l a).length) : k_ (turnM l) (a + 1) b = k_ l a b + 1 := by
  unfold k_
  rw [show (((a + 1 : Nat)) : Int) = (a : Int) + 1 by omega, turn_kid l a ha, map_getD _ _ hb]
theorem turn_TK {l : List Nd} (h : TK l) (h59 : l.length ≤ 59) : TK (turnM l) := by
  have hn := h.n1
  have hkl : ∀ a : Nat, a < l.length → (kid (turnM l) ((a + 1 : Nat) : Int)).length = (kid l a).length := fun a ha => by
    rw [show (((a + 1 : Nat)) : Int) = (a : Int) + 1 by omega, turn_kid l a ha, List.length_map]
  have h0 : k_ (turnM l) 0 0 = 1 := rfl
  refine ⟨by rw [turn_len]; omega, by rw [turn_len]; omega, fun a b ha hb => ?_, fun a b a' b' ha hb ha' hb' he => ?_, fun c h1 h2 => ?_, fun a ha => ?_⟩
  · rw [turn_len] at ha ⊢
    cases a with
    | zero =>
      have : b = 0 := by have : (kid (turnM l) ((0 : Nat) : Int)).length = 1 := rfl; omega
      subst this
      rw [h0]; omega
    | succ a =>
      rw [hkl a (by omega)] at hb
      have := h.kin a b (by omega) hb
      rw [turn_k l a b (by omega) hb]
      omega
  · rw [turn_len] at ha ha'
    cases a with
    | zero =>
      have e0 : b = 0 := by have : (kid (turnM l) ((0 : Nat) : Int)).length = 1 := rfl; omega
      subst e0
      cases a' with
      | zero =>
        have e0 : b' = 0 := by have : (kid (turnM l) ((0 : Nat) : Int)).length = 1 := rfl; omega
        exact ⟨rfl, e0.symm⟩
      | succ a' =>
        rw [hkl a' (by omega)] at hb'
        have := h.kin a' b' (by omega) hb'
        rw [h0, turn_k l a' b' (by omega) hb'] at he
        omega
    | succ a =>
      rw [hkl a (by omega)] at hb
      cases a' with
      | zero =>
        have e0 : b' = 0 := by have : (kid (turnM l) ((0 : Nat) : Int)).length = 1 := rfl; omega
        subst e0
        have := h.kin a b (by omega) hb
        rw [h0, turn_k l a b (by omega) hb] at he
        omega
      | succ a' =>
        rw [hkl a' (by omega)] at hb'
        rw [turn_k l a b (by omega) hb, turn_k l a' b' (by omega) hb'] at he
        have := h.inj a b a' b' (by omega) hb (by omega) hb' (by omega)
        omega
  · rw [turn_len] at h2
    cases c with
    | zero => omega
    | succ c =>
      cases c with
      | zero => exact ⟨0, 0, by rw [turn_len]; omega, Nat.zero_lt_one, rfl⟩
      | succ c =>
        obtain ⟨a, b, ha, hb, hk⟩ := h.cov (c + 1) (by omega) (by omega)
        refine ⟨a + 1, b, by rw [turn_len]; omega, by rw [hkl a ha]; exact hb, ?_⟩
        rw [turn_k l a b ha hb, hk]
        omega
  · rw [turn_len] at ha
    cases a with
    | zero => exact ⟨show (-100 : Int) ≤ 0 by decide, show (0 : Int) ≤ 100 by decide, fun _ => rfl⟩
    | succ a =>
      rw [hkl a (by omega)]
      have := h.wor a (by omega)
      have hw := turn_wor l a (by omega)
      rw [show (((a + 1 : Nat)) : Int) = (a : Int) + 1 by omega, hw]
      exact ⟨by omega, by omega, fun hp => by have := this.2.2 hp; omega⟩
theorem turn_dep {l : List Nd} {dep dep' : List Int} (hT : TF l dep) (hT' : TF (turnM l) dep') : dep'.getD 0 0 = 0 ∧ ∀ i : Nat, i < l.length → dep'.getD (i + 1) 0 = dep.getD i 0 + 1 := by
  have h0' : dep'.getD 0 0 = 0 := by have := hT'.dbd 0; omega
  have h0 : dep.getD 0 0 = 0 := by have := hT.dbd 0; omega
  refine ⟨h0', fun i => ?_⟩
  induction i using Nat.strongRecOn with
  | _ i ih =>
    intro hi
    by_cases e : i = 0
    · subst e
      have := hT'.kdep 0 0 (by rw [turn_len]; omega) Nat.zero_lt_one
      rw [show k_ (turnM l) 0 0 = 1 from rfl] at this
      simp only [rd] at this
      rw [show ((0 : Nat) : Int).toNat = 0 from rfl, show (1 : Int).toNat = 1 from rfl, h0'] at this
      rw [h0]
      exact this
    · obtain ⟨a, b, ha, hb, hk⟩ := hT.cov i (by omega) hi
      have hlt := hT.kin a b ha hb
      have h1 := hT.kdep a b ha hb
      have h2 := hT'.kdep (a + 1) b (by rw [turn_len]; omega) (by rw [show (((a + 1 : Nat)) : Int) = (a : Int) + 1 by omega, turn_kid l a ha, List.length_map]; exact hb)
      rw [turn_k l a b ha hb, hk] at h2
      rw [hk] at h1 hlt
      simp only [rd, Int.toNat_natCast] at h1 h2
      rw [show ((i : Int) + 1).toNat = i + 1 by omega] at h2
      rw [h2, h1, ih a (by omega) ha]
theorem turn_ev {l : List Nd} {dep dep' : List Int} (hT : TF l dep) (hT' : TF (turnM l) dep') {i : Nat} (hi : i < l.length) : evB dep' ((i : Int) + 1) = !evB dep i := by
  have h := (turn_dep hT hT').2 i hi
  have hb := (hT.dbd i).1
  unfold evB
  simp only [rd, Int.toNat_natCast]
  rw [show ((i : Int) + 1).toNat = i + 1 by omega, h]
  generalize dep.getD i 0 = d at *
  rw [Int.tmod_eq_emod_of_nonneg (by omega), Int.tmod_eq_emod_of_nonneg (by omega)]
  by_cases h : d % 2 = 0
  · rw [h, show (d + 1) % 2 = 1 by omega]; rfl
  · rw [show d % 2 = 1 by omega, show (d + 1) % 2 = 0 by omega]; rfl
theorem maxL_neg (xs : List Int) : maxL (xs.map fun x => -x) = - minL xs := by
  cases xs with
  | nil => rfl
  | cons x r =>
    simp only [maxL, minL, List.map_cons]
    induction r generalizing x with
    | nil => rfl
    | cons y r ih => simp only [List.map_cons, List.foldl_cons]; rw [show max (-x) (-y) = - min x y by omega]; exact ih _
theorem minL_neg (xs : List Int) : minL (xs.map fun x => -x) = - maxL xs := by
  cases xs with
  | nil => rfl
  | cons x r =>
    simp only [maxL, minL, List.map_cons]
    induction r generalizing x with
    | nil => rfl
    | cons y r ih => simp only [List.map_cons, List.foldl_cons]; rw [show min (-x) (-y) = - max x y by omega]; exact ih _
theorem turn_val {l : List Nd} {dep dep' : List Int} {vs us : List Int} (hT : TF l dep) (hT' : TF (turnM l) dep') (hv : ValP l dep (wor l) vs) (hu : ValP (turnM l) dep' (wor (turnM l)) us) : us.getD 0 0 = - vs.getD 0 0 := by
  have hn := hT.n1
  have key : ∀ j : Nat, j < l.length → us.getD (j + 1) 0 = - vs.getD j 0 := by
    refine tree_ind hT (Q := fun j => us.getD (j + 1) 0 = - vs.getD j 0) fun j hj hk => ?_
    have kD : (kid (turnM l) ((j : Int) + 1)).map (rd us) = ((kid l j).map (rd vs)).map fun x => -x := by
      rw [turn_kid l j hj, List.map_map, List.map_map]
      apply List.map_congr_left
      intro c hc
      obtain ⟨i, rfl, hi, h⟩ := hk c hc
      simp only [Function.comp, rd, Int.toNat_natCast]
      rw [show ((i : Int) + 1).toNat = i + 1 by omega]
      exact h
    rw [hu.at_ (j + 1) (by rw [turn_len]; omega), hv.at_ j hj]
    unfold NV
    rw [show (((j + 1 : Nat)) : Int) = (j : Int) + 1 by omega, kD, turn_leaf l j hj, turn_ev hT hT' hj, turn_wor l j hj]
    generalize (kid l j).map (rd vs) = xs
    cases leafB l j <;> cases evB dep j <;> simp [maxL_neg, minL_neg]
  rw [hu.at_ 0 (by rw [turn_len]; omega)]
  have h0 : evB dep' 0 = true := by
    unfold evB
    simp only [rd]
    rw [show (0 : Int).toNat = 0 from rfl, (turn_dep hT hT').1]
    rfl
  unfold NV
  rw [show ((0 : Nat) : Int) = 0 from rfl, h0, turn_kid0, show leafB (turnM l) 0 = false from rfl]
  have := key 0 (by omega)
  simp only [rd, maxL, List.map_cons, List.map_nil, List.foldl_nil]
  simpa using this
theorem pick_shift {es fs : List Ef} : ∀ (cs : List Int) (a : Ef), (∀ c ∈ cs, ed fs (c + 1) = ((ed es c).1, (ed es c).2.map (· + 1))) → (cs.map (· + 1)).foldl (pickF fs) (a.1, a.2.map (· + 1)) = ((cs.foldl (pickF es) a).1, (cs.foldl (pickF es) a).2.map (· + 1))
  | [], _, _ => rfl
  | c :: r, a, h => by
    rw [List.map_cons, List.foldl_cons, List.foldl_cons]
    have hp : pickF fs (a.1, a.2.map (· + 1)) (c + 1) = ((pickF es a c).1, (pickF es a c).2.map (· + 1)) := by
      unfold pickF
      rw [h c (by simp)]
      split <;> simp_all
    rw [hp]
    exact pick_shift r _ fun x hx => h x (by simp [hx])
theorem join_shift {es fs : List Ef} : ∀ (cs : List Int) (a : Ef), (∀ c ∈ cs, ed fs (c + 1) = ((ed es c).1, (ed es c).2.map (· + 1))) → (cs.map (· + 1)).foldl (joinF fs) (a.1, a.2.map (· + 1)) = ((cs.foldl (joinF es) a).1, (cs.foldl (joinF es) a).2.map (· + 1))
  | [], _, _ => rfl
  | c :: r, a, h => by
    rw [List.map_cons, List.foldl_cons, List.foldl_cons]
    have hp : joinF fs (a.1, a.2.map (· + 1)) (c + 1) = ((joinF es a c).1, (joinF es a c).2.map (· + 1)) := by
      unfold joinF
      rw [h c (by simp)]
      simp
    rw [hp]
    exact join_shift r _ fun x hx => h x (by simp [hx])
theorem turn_need {l : List Nd} {dep dep' : List Int} {lf lf' : Int → Int} {es fs : List Ef} (hT : TF l dep) (hT' : TF (turnM l) dep') (hE : NeedP l dep false lf es) (hF : NeedP (turnM l) dep' true lf' fs)
    (h : ∀ i : Nat, i < l.length → leafB l i = true → lf' ((i : Int) + 1) = lf i) (hb : (es.getD 0 (0, [])).1 ≤ far) : (fs.getD 0 (0, [])).1 = (es.getD 0 (0, [])).1 ∧ ((es.getD 0 (0, [])).1 < far → (fs.getD 0 (0, [])).2.length = (es.getD 0 (0, [])).2.length) := by
  have hn := hT.n1
  have key : ∀ j : Nat, j < l.length → fs.getD (j + 1) (0, []) = ((es.getD j (0, [])).1, (es.getD j (0, [])).2.map (· + 1)) := by
    refine tree_ind hT (Q := fun j => fs.getD (j + 1) (0, []) = ((es.getD j (0, [])).1, (es.getD j (0, [])).2.map (· + 1))) fun j hj hk => ?_
    have kD : ∀ c ∈ kid l j, ed fs (c + 1) = ((ed es c).1, (ed es c).2.map (· + 1)) := fun c hc => by
      obtain ⟨i, rfl, hi, h⟩ := hk c hc
      simp only [ed, Int.toNat_natCast]
      rw [show ((i : Int) + 1).toNat = i + 1 by omega]
      exact h
    rw [hF.at_ (j + 1) (by rw [turn_len]; omega), hE.at_ j hj]
    unfold NE
    rw [show (((j + 1 : Nat)) : Int) = (j : Int) + 1 by omega, turn_leaf l j hj, turn_ev hT hT' hj, turn_kid l j hj]
    by_cases hl : leafB l j = true
    · rw [if_pos hl, if_pos hl, h j hj hl]; rfl
    · rw [if_neg hl, if_neg hl]
      have hp := pick_shift (kid l j) (far, []) kD
      have hq := join_shift (kid l j) (0, []) kD
      simp only [List.map_nil] at hp hq
      cases evB dep j
      · simpa using hp
      · simpa using hq
  have h0 : evB dep' 0 = true := by
    unfold evB
    simp only [rd]
    rw [show (0 : Int).toNat = 0 from rfl, (turn_dep hT hT').1]
    rfl
  have hk := key 0 (by omega)
  have hz := hF.at_ 0 (by rw [turn_len]; omega)
  unfold NE at hz
  rw [show ((0 : Nat) : Int) = 0 from rfl, h0, turn_kid0, show leafB (turnM l) 0 = false from rfl] at hz
  simp only [Bool.false_eq_true, if_false, beq_self_eq_true, if_true, List.foldl_cons, List.foldl_nil, pickF, ed] at hz
  rw [show (1 : Int).toNat = 0 + 1 from rfl, hk] at hz
  rw [hz]
  split
  · exact ⟨rfl, fun _ => by simp⟩
  · rename_i hx
    simp only at hx ⊢
    exact ⟨by omega, fun h => by omega⟩
theorem kids_shift {l : List Nd} {ev : Bool} {rec rec' : Int → Int → Int → Int × List Int} : ∀ (cs : List Int) (lo hi : Int), (∀ c ∈ cs, ∀ lo hi, rec' (c + 1) (-hi) (-lo) = (-(rec c lo hi).1, (rec c lo hi).2.map (· + 1))) →
    kidsS rec' (!ev) (cs.map (· + 1)) (-hi) (-lo) = (-(kidsS rec ev cs lo hi).2.1, -(kidsS rec ev cs lo hi).1, (kidsS rec ev cs lo hi).2.2.map (· + 1))
  | [], lo, hi, _ => rfl
  | c :: r, lo, hi, h => by
    have hc := h c (by simp) lo hi
    simp only [List.map_cons, kidsS]
    rw [hc]
    have e1 : (if (!ev) = true then -lo else min (-lo) (-(rec c lo hi).1)) = -(if ev = true then max lo (rec c lo hi).1 else lo) := by cases ev <;> simp <;> omega
    have e2 : (if (!ev) = true then max (-hi) (-(rec c lo hi).1) else -hi) = -(if ev = true then hi else min hi (rec c lo hi).1) := by cases ev <;> simp <;> omega
    simp only [e1, e2]
    generalize (if ev = true then max lo (rec c lo hi).1 else lo) = lo' at *
    generalize (if ev = true then hi else min hi (rec c lo hi).1) = hi' at *
    by_cases hle : hi' ≤ lo'
    · rw [if_pos hle, if_pos (by omega)]
    · rw [if_neg hle, if_neg (by omega), kids_shift (l := l) r lo' hi' fun x hx => h x (by simp [hx])]
      simp
theorem turn_sr {l : List Nd} {dep dep' : List Int} (hT : TF l dep) (hT' : TF (turnM l) dep') : ∀ (f : Nat) (i : Nat) (lo hi : Int), i < l.length → srS (turnM l) dep' f ((i : Int) + 1) (-hi) (-lo) = (-(srS l dep f i lo hi).1, (srS l dep f i lo hi).2.map (· + 1))
  | 0, i, lo, hi, _ => rfl
  | f + 1, i, lo, hi, h => by
    simp only [srS]
    rw [turn_leaf l i h, turn_ev hT hT' h, turn_kid l i h, turn_wor l i h]
    by_cases hl : leafB l i = true
    · rw [if_pos hl, if_pos hl]; rfl
    · rw [if_neg hl, if_neg hl, kids_shift (l := l) (kid l i) lo hi fun c hc lo hi => by
        obtain ⟨h1, h2⟩ := mem_kid hT h hc
        have := turn_sr hT hT' f c.toNat lo hi (by omega)
        rw [show ((c.toNat : Nat) : Int) = c by omega] at this
        exact this]
      cases evB dep i <;> simp
theorem turn_search {l : List Nd} {dep dep' : List Int} (hT : TF l dep) (hT' : TF (turnM l) dep') : (srS (turnM l) dep' (turnM l).length 0 (-far) far).2.length = (srS l dep l.length 0 (-far) far).2.length := by
  have hn := hT.n1
  have h0 : evB dep' 0 = true := by
    unfold evB
    simp only [rd]
    rw [show (0 : Int).toNat = 0 from rfl, (turn_dep hT hT').1]
    rfl
  have h := turn_sr hT hT' l.length 0 (-far) far (by omega)
  rw [turn_len]
  simp only [srS]
  rw [show leafB (turnM l) 0 = false from rfl, h0, turn_kid0]
  simp only [Bool.false_eq_true, if_false, kidsS, if_true]
  have e : srS (turnM l) dep' l.length 1 (-far) far = (-(srS l dep l.length 0 (-far) far).1, (srS l dep l.length 0 (-far) far).2.map (· + 1)) := by
    have := h
    simpa using this
  rw [e]
  split <;> simp
end Go.Proofs.Ytdiljpnfochndaa.HP
namespace Go.Proofs.Ytdiljpnfochndaa
open Go Go.RowKit Go.Proofs.Ytdiljpnfochndaa.VW
open Go.Proofs.Ytdiljpnfochndaa.HP (tameM tame_TK modM modM_bd Nd kid wor leafB rd gameOf gameOf_TF TF TK turnM turn_len turn_TK ValP far NeedP srS)
attribute [local irreducible] W Ops OrdA VW.Ord OrdX
theorem turn_take {l : List Nd} {i : Nat} (h : i < l.length) : (l.take (i + 1)).map (fun x : Nd => (x.1.map (· + 1), -x.2)) = (l.take i).map (fun x : Nd => (x.1.map (· + 1), -x.2)) ++ [((kid l i).map (· + 1), - wor l i)] := by
  rw [List.take_succ_eq_append_getElem h, List.map_append]
  simp [kid, wor, List.getD_eq_getElem?_getD, h]
theorem map_take_succ {xs : List Int} {j : Nat} (h : j < xs.length) : (xs.take (j + 1)).map (· + 1) = (xs.take j).map (· + 1) ++ [xs.getD j 0 + 1] := by
  rw [Go.Proofs.Ytdiljpnfochndaa.HP.take_snoc xs j h, List.map_append]
  rfl
def TurnR (l : List Nd) (w w' : World) (r : Value) : Prop := (if l.length = 60 then none else gameOf l).elim (r = .tuple #[.slice none 0 0, .int .i64 2]) fun dep => ∃ ov cvs, r = .tuple #[ov, .int .i64 0] ∧ TO w w' ov (turnM l) cvs
def TurnQ (l : List Nd) (w w' : World) (r : Value) : Prop := (if l.length = 60 then none else gameOf l).elim (r = .tuple #[.slice none 0 0, .int .i64 2]) fun dep => ∃ ov cvs, r = .tuple #[ov, .int .i64 0] ∧ TQ w.heap.size w' ov (turnM l) cvs
set_option maxHeartbeats 2000000 in
theorem turnedQ_c {w : World} {v : Value} {l : List Nd} (hT : TreeM w v l) (hl : l.length ≤ 9223372036854775807) :
    Calls Try.prog 37 #[v] w (Ret fun r w' => Below w.heap.size w w' ∧ TurnQ l w w' r) := by
  obtain ⟨At, ct, rfl⟩ := hT.sl
  refine calls_W (vs := [_]) Try.func37 rfl (by kernel_rfl) rfl ?_
  (repeat (first | with_reducible refine W.seq ?_ | with_reducible refine Ops.nil ?_ | with_reducible refine W.region ?_ | refine z_p (kk := ?_)))
  refine Ops.call rfl rfl rfl rfl rfl (newGame_c hT hl) (fun r w1 hR => ?_)
  obtain ⟨hb1, hR⟩ := hR
  cases hg : gameOf l with
  | none =>
    rw [hg] at hR
    obtain ⟨p, hp1, rfl⟩ := hR
    (repeat (first | with_reducible refine W.seq ?_ | with_reducible refine Ops.nil ?_ | with_reducible refine W.region ?_ | refine z_p (kk := ?_) | refine z_n (kk := ?_)))
    refine W.condT rfl (by first | rfl | assumption | (simp only [bnf] <;> omega) | (simp only [*, bnf]; done) | fail) ?_
    (repeat (first | with_reducible refine W.seq ?_ | with_reducible refine Ops.nil ?_ | with_reducible refine W.region ?_ | refine z_p (kk := ?_)))
    exact W.fret rfl ⟨hb1, by simp only [TurnQ, hg, ite_self]; rfl⟩
  | some dep =>
    rw [hg] at hR
    obtain ⟨g, rfl, hgs, hG⟩ := hR
    have hTF := gameOf_TF hg
    have hn60 := hTF.n60
    have hn1 := hTF.n1
    by_cases h60 : l.length = 60
    · (repeat (first | with_reducible refine W.seq ?_ | with_reducible refine Ops.nil ?_ | with_reducible refine W.region ?_ | refine z_p (kk := ?_) | refine z_y (kk := ?_) | refine z_l (kk := ?_)))
      refine W.condT rfl (by first | rfl | assumption | (simp only [bnf] <;> omega) | (simp only [*, bnf]; done) | fail) ?_
      (repeat (first | with_reducible refine W.seq ?_ | with_reducible refine Ops.nil ?_ | with_reducible refine W.region ?_ | refine z_p (kk := ?_)))
      exact W.fret rfl ⟨hb1, by simp only [TurnQ]; rw [if_pos h60]; rfl⟩
    · have h60' : ¬ ((l.length : Int) = 60) := by omega
      (repeat (first | with_reducible refine W.seq ?_ | with_reducible refine Ops.nil ?_ | with_reducible refine W.region ?_ | refine z_p (kk := ?_) | refine z_y (kk := ?_) | refine z_l (kk := ?_)))
      refine W.condF rfl (by first | rfl | assumption | (simp only [bnf] <;> omega) | (simp only [*, bnf]; done) | fail) ?_
      (repeat (first | with_reducible refine W.seq ?_ | with_reducible refine W.region ?_ | with_reducible refine W.skip ?_))
      refine Ops.bs1 rfl rfl rfl rfl rfl rfl rfl rfl rfl (fun w2 r2 hM2 => ?_)
      have hb2 : Below w.heap.size w w2 := Below.put hb1 hM2.kp (fun _ e => e.elim)
      have hk2 : SlI w2 (.slice (some ⟨r2, 0, none⟩) 1 1) [1] := own_sl (z := (0 : Int)) (xs := [1]) (own_one hM2)
      refine Ops.bldG (cs := #[.slice (some ⟨r2, 0, none⟩) 1 1, .int .i64 0]) rfl rfl rfl rfl rfl rfl (by kernel_rfl) ?_
      refine Ops.bsG (cs := #[.slice (some ⟨r2, 0, none⟩) 1 1, .int .i64 0]) rfl rfl rfl rfl rfl rfl rfl rfl rfl (by kernel_rfl) (fun w3 r3 hM3 => ?_)
      have hb3 : Below w.heap.size w w3 := Below.put hb2 hM3.kp (fun _ e => e.elim)
      have e2 := hM2.r_eq
      have e3 := hM3.r_eq
      have e4 := hM2.size
      have e5 := hb1.size
      have hTO3 : TQ w.heap.size w3 (.slice (some ⟨r3, 0, none⟩) 1 1) [([1], 0)] [.slice (some ⟨r2, 0, none⟩) 1 1] := by
        refine ⟨fun k hk => by simp [Value.ownBlock] at hk; omega, rfl, ⟨rfl, .inr ⟨r3, 1, _, rfl, Nat.zero_le _, hM3.at_, Nat.le_refl _, by simp [maxLen], rfl, rfl⟩⟩, fun j hj => ?_, fun j hj k hk => ?_, fun j j' hj hj' hne => ?_⟩
        · have : j = 0 := by simp at hj; omega
          subst this
          exact own_kp (own_one hM2) hM3.kp (fun _ _ e => e)
        · have : j = 0 := by simp at hj; omega
          subst this
          simp [Value.ownBlock] at hk ⊢
          omega
        · simp at hj hj'
          omega
      (repeat (first | with_reducible refine W.seq ?_ | with_reducible refine Ops.nil ?_ | with_reducible refine W.region ?_ | refine z_p (kk := ?_) | with_reducible refine W.block ?_ | refine z_l (kk := ?_)))
      refine W.loop (fun m ρ w4 => ∃ (i : Nat) (ov : Value) (cvs : List Value), m = l.length - i ∧ i ≤ l.length ∧ ρ = [(6, ov), (27, .slice At l.length ct), (28, .int .i64 l.length), (29, .int .i64 i)] ∧ Below w.heap.size w w4 ∧ TQ w.heap.size w4 ov (([1], 0) :: (l.take i).map fun x => (x.1.map (· + 1), -x.2)) cvs)
        ⟨_, _, ⟨0, _, _, rfl, Nat.zero_le _, rfl, hb3, hTO3⟩, (by repeat (first | exact trivial | refine And.intro rfl ?_))⟩ ?_
      clear hTO3 hk2
      rintro m ρ w4 ⟨i, ov, cvs, rfl, hi, rfl, hb4, hO⟩
      (repeat (first | with_reducible refine W.seq ?_ | with_reducible refine Ops.nil ?_ | with_reducible refine W.region ?_ | refine z_p (kk := ?_)))
      (first | refine W.condD rfl (fun hc => ?_) (fun hc => ?_) | refine W.condE rfl (fun hc => ?_) (fun hc => ?_) | refine W.condN rfl (fun hc => ?_) (fun hc => ?_) | refine W.cond rfl (fun hc => ?_) (fun hc => ?_))
      · have hil : i < l.length := by omega
        have hkl := hTF.klen i hil
        have hkin := hTF.kin i
        have hwo := hTF.wor i hil
        (repeat (first | with_reducible refine W.seq ?_ | with_reducible refine W.region ?_ | with_reducible refine W.skip ?_ | with_reducible refine W.block ?_ | refine z_s (kk := fun _ _ _ _ => ?_)))
        refine Ops.alloc rfl rfl rfl rfl (fun w5 b8 hM5 => ?_)
        refine Ops.st2 rfl rfl rfl rfl rfl rfl rfl rfl hM5.at_ (fun w6 hu6 => ?_)
        have k6 := hM5.kp.trans hu6.kp
        have e5 := hM5.r_eq
        have hb46 : Below w4.heap.size w4 w6 := Below.put (Below.refl _ _) k6 (fun i hi => by rcases hi with hi | hi; exact hi.elim; omega)
        have hB8 := hu6.blk
        (repeat (first | with_reducible refine W.seq ?_ | with_reducible refine Ops.nil ?_ | with_reducible refine W.region ?_ | refine z_a (kk := ?_) | refine z_f (kk := ?_) | refine z_d (kk := ?_)))
        refine Ops.bldG (cs := #[.slice none 0 0, .int .i64 (0 - wor l i)]) rfl rfl rfl rfl rfl rfl (by kernel_rfl) ?_
        refine Ops.alloc rfl rfl rfl rfl (fun w7 b9 hM7 => ?_)
        refine Ops.st2 rfl rfl rfl rfl rfl rfl rfl rfl hM7.at_ (fun w8 hu8 => ?_)
        have k8 := hM7.kp.trans hu8.kp
        have e7 := hM7.r_eq
        have e6 := hM5.size
        have hsz := hu6.size
        have hb48 : Below w4.heap.size w4 w8 := Below.put hb46 k8 (fun i hi => by rcases hi with hi | hi; exact hi.elim; omega)
        have hB9 := hu8.blk
        have hB8' := Blk.kp hB8 k8 (fun hi => by rcases hi with hi | hi; exact hi; omega)
        have hb08 := Below.via hb4 hb48
        (repeat (first | with_reducible refine W.seq ?_ | with_reducible refine Ops.nil ?_ | with_reducible refine W.region ?_ | refine z_p (kk := ?_) | with_reducible refine W.block ?_ | refine z_l (kk := ?_) | refine z_f (kk := ?_) | refine z_d (kk := ?_)))
        refine W.loop (fun m ρ w9 => ∃ (j : Nat) (lv : Value), m = (kid l i).length - j ∧ j ≤ (kid l i).length ∧ (∃ A c, ρ = [(6, ov), (9, .pointer (some ⟨b9, 0, none⟩)), (27, .slice At l.length ct), (28, .int .i64 l.length), (29, .int .i64 i), (38, .slice A (kid l i).length c), (39, .int .i64 (kid l i).length), (40, .int .i64 j)] ∧ SlI w (.slice A (kid l i).length c) (kid l i)) ∧ OI 3 (Value.int .i64) w4 w9 lv ((kid l i).take j |>.map (· + 1)) ∧ Blk w9 b9 #[lv, .int .i64 (0 - wor l i)] 47 ∧ lv.ownBlock ≠ some b9)
          ⟨_, _, ⟨0, _, rfl, Nat.zero_le _, ⟨_, _, rfl, by assumption⟩, OI.nil hb48, hB9, by simp [Value.ownBlock]⟩, (by repeat (first | exact trivial | refine And.intro rfl ?_))⟩ ?_
        rintro m ρ w9 ⟨j, lv, rfl, hj, ⟨Ak, ck, rfl, hks⟩, hL, hB, hne⟩
        have hb9 := Below.via hb4 hL.bel
        (repeat (first | with_reducible refine W.seq ?_ | with_reducible refine Ops.nil ?_ | with_reducible refine W.region ?_ | refine z_p (kk := ?_)))
        (first | refine W.condD rfl (fun hc => ?_) (fun hc => ?_) | refine W.condE rfl (fun hc => ?_) (fun hc => ?_) | refine W.condN rfl (fun hc => ?_) (fun hc => ?_) | refine W.cond rfl (fun hc => ?_) (fun hc => ?_))
        · have hjl : j < (kid l i).length := by omega
          have hkj := hkin j hil hjl
          simp only [Go.Proofs.Ytdiljpnfochndaa.HP.k_] at hkj
          have hb9lt := hB.lt
          (repeat (first | with_reducible refine W.seq ?_ | with_reducible refine Ops.nil ?_ | with_reducible refine W.region ?_ | refine z_p (kk := ?_) | refine z_a (kk := ?_) | with_reducible refine W.skip ?_ | with_reducible refine W.block ?_ | refine z_f (kk := ?_) | refine z_d (kk := ?_) | refine z_I (kk := fun _ => ?_)))
          refine Ops.pushO (enc := Value.int .i64) rfl rfl rfl rfl rfl rfl rfl rfl rfl rfl rfl rfl (fun _ => rfl) rfl hL (by simp; omega) (fun lv' _ w10 hL10 k10 hn10 => ?_)
          have hB10 := hB.kp k10 (fun e => hne e)
          (repeat (first | refine z_f (kk := ?_)))
          have h1 : lv'.oneCell' = true := by obtain ⟨A, c, rfl⟩ := hL10.sh; rfl
          refine Ops.st rfl rfl rfl rfl rfl rfl h1 hB10 (by simp) (fun w11 hu11 => ?_)
          have hne2 : lv'.ownBlock ≠ some b9 := fun e => by
            rcases hn10 b9 e with h | h
            · exact hne h
            · omega
          have hL11 := hL10.kp hu11.kp (fun i hi => ⟨by omega, fun e => hne2 (by rw [e, hi])⟩)
          have hB11 := hu11.blk
          rw [← map_take_succ hjl] at hL11
          (repeat (first | with_reducible refine Ops.nil ?_ | with_reducible refine W.region ?_ | refine z_p (kk := ?_) | refine z_a (kk := ?_) | with_reducible refine W.endb ?_))
          exact W.endl ⟨_, _, ⟨⟨j + 1, _, rfl, by omega, ⟨_, _, rfl, hks⟩, hL11, hB11, hne2⟩, by omega⟩, (by repeat (first | exact trivial | refine And.intro rfl ?_))⟩
        · have hjl : j = (kid l i).length := by omega
          subst hjl
          rw [List.take_length] at hL
          have hO9 := hO.below hL.bel
          have h1 : lv.oneCell' = true := by obtain ⟨A, c, rfl⟩ := hL.sh; rfl
          (repeat (first | with_reducible refine W.region ?_ | refine z_p (kk := ?_) | refine W.exit rfl ?_))
          refine Ops.ld2 rfl rfl rfl rfl rfl rfl (hB.cell rfl) (by rw [add_lit]; exact hB.cell rfl) ?_
          refine Ops.push2 rfl rfl rfl rfl rfl rfl rfl rfl rfl rfl rfl (fun _ => rfl) h1 rfl hO9.row (by simp; omega) (fun lv' p w10 hrow k10 hn10 => ?_)
          have hb9' := Below.via hb4 hL.bel
          have hb10 : Below w.heap.size w w10 := Below.put hb9' k10 (fun i hi => hO.ge i hi)
          have hs48 := hb48.size
          have hs4 := hb4.size
          have hO10 := hO9.pushK hb9'.size hL.own (fun q hq => ⟨by have := hL.ge q hq; omega, fun e => by have := hL.ge q hq; have := (hO.lt e).2; omega⟩) hrow k10 hn10
          rw [List.cons_append, show (0 - wor l i) = - wor l i by omega, ← turn_take hil] at hO10
          (repeat (first | with_reducible refine Ops.nil ?_ | with_reducible refine W.region ?_ | refine z_p (kk := ?_) | refine z_a (kk := ?_) | with_reducible refine W.endb ?_))
          exact W.endl ⟨_, _, ⟨⟨i + 1, _, _, rfl, by omega, rfl, hb10, hO10⟩, by omega⟩, (by repeat (first | exact trivial | refine And.intro rfl ?_))⟩
      · have hil : i = l.length := by omega
        subst hil
        rw [List.take_length] at hO
        (repeat (first | with_reducible refine W.seq ?_ | with_reducible refine Ops.nil ?_ | with_reducible refine W.region ?_ | refine z_p (kk := ?_) | refine W.exit rfl ?_))
        exact W.fret rfl ⟨hb4, by simp only [TurnQ]; rw [if_neg h60, hg]; exact ⟨ov, cvs, rfl, hO⟩⟩
theorem turned_c {w : World} {v : Value} {l : List Nd} (hT : TreeM w v l) (hl : l.length ≤ 9223372036854775807) :
    Calls Try.prog 37 #[v] w (Ret fun r w' => Below w.heap.size w w' ∧ TurnR l w w' r) :=
  (turnedQ_c hT hl).mono fun e w' ⟨v, he, hb, hR⟩ => ⟨v, he, hb, by
    unfold TurnQ at hR
    unfold TurnR
    cases hg : (if l.length = 60 then none else gameOf l) with
    | none => rw [hg] at hR; exact hR
    | some dep =>
      rw [hg] at hR
      obtain ⟨ov, cvs, e, hQ⟩ := hR
      exact ⟨ov, cvs, e, hQ.to hb⟩⟩
end Go.Proofs.Ytdiljpnfochndaa
namespace Go.Proofs.Ytdiljpnfochndaa
open Go Go.RowKit Go.Proofs.Ytdiljpnfochndaa.VW
open Go.Proofs.Ytdiljpnfochndaa.HP (Nd kid wor leafB rd evB TF turnM)
attribute [local irreducible] W Ops OrdA VW.Ord OrdX
set_option maxHeartbeats 2000000 in
theorem refTurned_c {w : World} {v : Value} {l : List Nd} {dep : List Int} (hT : TreeM w v l) (hTF : TF l dep) :
    Calls Try.prog 54 #[v] w (Ret fun r w' => ∃ cvs, TO w w' r (turnM l) cvs) := by
  obtain ⟨At, ct, rfl⟩ := hT.sl
  have hn60 := hTF.n60
  have hn1 := hTF.n1
  refine calls_W (vs := [_]) Try.func54 rfl (by kernel_rfl) rfl ?_
  (repeat (first | with_reducible refine W.seq ?_ | with_reducible refine Ops.nil ?_ | with_reducible refine W.region ?_ | refine z_p (kk := ?_)))
  refine Ops.bs1 rfl rfl rfl rfl rfl rfl rfl rfl rfl (fun w2 r2 hM2 => ?_)
  have hb2 : Below w.heap.size w w2 := Below.put (Below.refl _ _) hM2.kp (fun _ e => e.elim)
  have hk2 : SlI w2 (.slice (some ⟨r2, 0, none⟩) 1 1) [1] := own_sl (z := (0 : Int)) (xs := [1]) (own_one hM2)
  refine Ops.bldG (cs := #[.slice (some ⟨r2, 0, none⟩) 1 1, .int .i64 0]) rfl rfl rfl rfl rfl rfl (by kernel_rfl) ?_
  refine Ops.bsG (cs := #[.slice (some ⟨r2, 0, none⟩) 1 1, .int .i64 0]) rfl rfl rfl rfl rfl rfl rfl rfl rfl (by kernel_rfl) (fun w3 r3 hM3 => ?_)
  have hb3 : Below w.heap.size w w3 := Below.put hb2 hM3.kp (fun _ e => e.elim)
  have e2 := hM2.r_eq
  have e3 := hM3.r_eq
  have e4 := hM2.size
  have hTO3 : TO w w3 (.slice (some ⟨r3, 0, none⟩) 1 1) [([1], 0)] [.slice (some ⟨r2, 0, none⟩) 1 1] := by
    refine ⟨hb3, fun k hk => by simp [Value.ownBlock] at hk; omega, rfl, ⟨rfl, .inr ⟨r3, 1, _, rfl, Nat.zero_le _, hM3.at_, Nat.le_refl _, by simp [maxLen], rfl, rfl⟩⟩, fun j hj => ?_⟩
    have : j = 0 := by simp at hj; omega
    subst this
    refine ⟨Sl.kp hk2 hM3.kp (fun _ _ e => e), fun _ i hi => ?_⟩
    simp [Value.ownBlock] at hi ⊢
    omega
  (repeat (first | with_reducible refine W.seq ?_ | with_reducible refine Ops.nil ?_ | with_reducible refine W.region ?_ | refine z_p (kk := ?_) | with_reducible refine W.block ?_))
  refine W.loop (fun m ρ w4 => ∃ (i : Nat) (ov : Value) (cvs : List Value), m = l.length - i ∧ i ≤ l.length ∧ ρ = [(0, .slice At l.length ct), (3, ov), (4, .int .i64 i)] ∧ TO w w4 ov (([1], 0) :: (l.take i).map fun x => (x.1.map (· + 1), -x.2)) cvs)
    ⟨_, _, ⟨0, _, _, rfl, Nat.zero_le _, rfl, hTO3⟩, (by repeat (first | exact trivial | refine And.intro rfl ?_))⟩ ?_
  clear hTO3 hk2
  rintro m ρ w4 ⟨i, ov, cvs, rfl, hi, rfl, hO⟩
  have hb4 := hO.bel
  (repeat (first | with_reducible refine W.seq ?_ | with_reducible refine Ops.nil ?_ | with_reducible refine W.region ?_ | refine z_p (kk := ?_) | refine z_l (kk := ?_)))
  (first | refine W.condD rfl (fun hc => ?_) (fun hc => ?_) | refine W.condE rfl (fun hc => ?_) (fun hc => ?_) | refine W.condN rfl (fun hc => ?_) (fun hc => ?_) | refine W.cond rfl (fun hc => ?_) (fun hc => ?_))
  · have hil : i < l.length := by omega
    have hkl := hTF.klen i hil
    have hkin := hTF.kin i
    have hwo := hTF.wor i hil
    (repeat (first | with_reducible refine W.seq ?_ | with_reducible refine W.region ?_ | refine z_p (kk := ?_) | refine z_a (kk := ?_) | with_reducible refine W.skip ?_ | with_reducible refine W.block ?_ | refine z_w (kk := fun _ _ => ?_)))
    refine Ops.evG rfl rfl rfl (EV.bldS rfl rfl rfl rfl rfl) ?_
    refine Ops.alloc rfl rfl rfl rfl (fun w5 b8 hM5 => ?_)
    refine Ops.st2 rfl rfl rfl rfl rfl rfl rfl rfl hM5.at_ (fun w6 hu6 => ?_)
    have k6 := hM5.kp.trans hu6.kp
    have e5 := hM5.r_eq
    have hb46 : Below w4.heap.size w4 w6 := Below.put (Below.refl _ _) k6 (fun i hi => by rcases hi with hi | hi; exact hi.elim; omega)
    have hB8 := hu6.blk
    have hb06 := Below.via hb4 hb46
    (repeat (first | with_reducible refine W.seq ?_ | with_reducible refine Ops.nil ?_ | with_reducible refine W.region ?_ | refine z_p (kk := ?_) | with_reducible refine W.block ?_))
    refine W.loop (fun m ρ w9 => ∃ (j : Nat) (lv : Value), m = (kid l i).length - j ∧ j ≤ (kid l i).length ∧ ρ = [(0, .slice At l.length ct), (3, ov), (4, .int .i64 i), (5, .pointer (some ⟨b8, 0, none⟩)), (6, lv), (7, .int .i64 j)] ∧ OI 3 (Value.int .i64) w6 w9 lv (((kid l i).take j).map (· + 1)))
      ⟨_, _, ⟨0, _, rfl, Nat.zero_le _, rfl, OI.nil (Below.refl _ _)⟩, (by repeat (first | exact trivial | refine And.intro rfl ?_))⟩ ?_
    rintro m ρ w9 ⟨j, lv, rfl, hj, rfl, hL⟩
    have hb69 := hL.bel
    have hb9 := Below.via hb06 hL.bel
    (repeat (first | with_reducible refine W.seq ?_ | with_reducible refine Ops.nil ?_ | with_reducible refine W.region ?_ | refine z_p (kk := ?_) | refine z_l (kk := ?_) | refine z_k (kk := fun _ _ _ _ _ => ?_)))
    (first | refine W.condD rfl (fun hc => ?_) (fun hc => ?_) | refine W.condE rfl (fun hc => ?_) (fun hc => ?_) | refine W.condN rfl (fun hc => ?_) (fun hc => ?_) | refine W.cond rfl (fun hc => ?_) (fun hc => ?_))
    · have hjl : j < (kid l i).length := by omega
      have hkj := hkin j hil hjl
      simp only [Go.Proofs.Ytdiljpnfochndaa.HP.k_] at hkj
      (repeat (first | with_reducible refine W.seq ?_ | with_reducible refine W.region ?_ | refine z_p (kk := ?_) | refine z_a (kk := ?_) | with_reducible refine W.skip ?_ | with_reducible refine W.block ?_ | refine z_I (kk := fun _ => ?_) | refine z_k (kk := fun _ _ _ _ _ => ?_)))
      refine Ops.pushO (enc := Value.int .i64) rfl rfl rfl rfl rfl rfl rfl rfl rfl rfl rfl rfl (fun _ => rfl) rfl hL (by simp; omega) (fun lv' _ w10 hL10 k10 hn10 => ?_)
      rw [← map_take_succ hjl] at hL10
      (repeat (first | with_reducible refine Ops.nil ?_ | with_reducible refine W.region ?_ | refine z_p (kk := ?_) | refine z_a (kk := ?_) | with_reducible refine W.endb ?_))
      exact W.endl ⟨_, _, ⟨⟨j + 1, _, rfl, by omega, rfl, hL10⟩, by omega⟩, (by repeat (first | exact trivial | refine And.intro rfl ?_))⟩
    · have hjl : j = (kid l i).length := by omega
      subst hjl
      rw [List.take_length] at hL
      have hB9 := hB8.kp (Kp.of_below (S := fun _ => False) hb69) (fun e => e)
      have h1 : lv.oneCell' = true := by obtain ⟨A, c, rfl⟩ := hL.sh; rfl
      (repeat (first | with_reducible refine W.seq ?_ | with_reducible refine W.region ?_ | refine z_p (kk := ?_) | refine W.exit rfl ?_ | refine z_f (kk := ?_)))
      refine Ops.st rfl rfl rfl rfl rfl rfl h1 hB9 (by simp) (fun w10 hu10 => ?_)
      have hB10 := hu10.blk
      have hs6 := hb69.size
      have hlt8 := hB8.lt
      have hb410 : Below w4.heap.size w4 w10 := Below.put (Below.via hb46 hb69) hu10.kp (fun k hk => by omega)
      have hO10 := hO.below hb410
      have hL10 := hL.own
      have hlv : ∀ k, lv.ownBlock = some k → w6.heap.size ≤ k ∧ k < w9.heap.size := fun k hk => ⟨hL.ge k hk, (hL.own.lt k hk).2⟩
      have hLs : SlI w10 lv ((kid l i).map (· + 1)) := (hL.sl (z := (0 : Int))).kp hu10.kp (fun k hk e => by have := hlv k hk; omega)
      (repeat (first | with_reducible refine Ops.nil ?_ | with_reducible refine W.region ?_ | refine z_p (kk := ?_)))
      refine Ops.ld2 rfl rfl rfl rfl rfl rfl (hB10.cell rfl) (by rw [add_lit]; exact hB10.cell rfl) ?_
      refine Ops.push2 rfl rfl rfl rfl rfl rfl rfl rfl rfl rfl rfl (fun _ => rfl) h1 rfl hO10.row (by simp; omega) (fun lv' p w11 hrow k11 hn11 => ?_)
      have hO11 := hO10.push hLs (fun hp q hq e => by have := hlv q hq; have := (hO.row.lt q e).2; have := hb46.size; omega) hrow k11 hn11
      rw [List.cons_append, show (0 - wor l i) = - wor l i by omega, ← turn_take hil] at hO11
      (repeat (first | with_reducible refine Ops.nil ?_ | with_reducible refine W.region ?_ | refine z_p (kk := ?_) | refine z_a (kk := ?_) | with_reducible refine W.endb ?_))
      exact W.endl ⟨_, _, ⟨⟨i + 1, _, _, rfl, by omega, rfl, hO11⟩, by omega⟩, (by repeat (first | exact trivial | refine And.intro rfl ?_))⟩
  · have hil : i = l.length := by omega
    subst hil
    rw [List.take_length] at hO
    (repeat (first | with_reducible refine W.seq ?_ | with_reducible refine Ops.nil ?_ | with_reducible refine W.region ?_ | refine z_p (kk := ?_) | refine W.exit rfl ?_))
    exact W.fret rfl ⟨cvs, hO⟩
end Go.Proofs.Ytdiljpnfochndaa
namespace Go.Proofs.Ytdiljpnfochndaa
open Go Go.RowKit Go.Proofs.Ytdiljpnfochndaa.VW
open Go.Proofs.Ytdiljpnfochndaa.HP (Nd kid wor leafB rd evB gameOf gameOf_TF TF TK ValP k_)
attribute [local irreducible] W Ops OrdA VW.Ord OrdX Wi OpsI
set_option maxHeartbeats 4000000 in
theorem leaves1_in {g b1 lp : Nat} {l : List Nd} {dep : List Int} {J : Nat → World → Prop} (hT : TF l dep)
    (hJ : ∀ i W, J i W → Blk W b1 #[.pointer (some ⟨g, 0, none⟩)] 69 ∧ Game W g l dep)
    (hno : ∀ i W, J i W → i < l.length → leafB l i = false → J (i + 1) W)
    (hyes : ∀ i W, J i W → i < l.length → leafB l i = true → YieldAt (Fw none) 0 Try.prog lp #[.int .i64 i] W (fun e W' => e = .returned (.bool true) ∧ J (i + 1) W'))
    {w : World} (h0 : J 0 w) : CallsIn (Fw none) 0 Try.prog 97 #[.func (.yield lp) #[] #[], .pointer (some ⟨b1, 0, none⟩)] w (Ret fun v w' => J l.length w') := by
  have hn60 := hT.n60
  have hdl := hT.len
  obtain ⟨hB, hG⟩ := hJ _ _ h0
  obtain ⟨tv, dv, hGB, hGT, hGD⟩ := hG.out
  obtain ⟨At, ct, rfl⟩ := hGT.sl
  refine callsIn_Wi (vs := [_, _]) Try.func97 rfl rfl ?_
  refine Wi.seq (Wi.regionN rfl rfl ?_)
  (repeat (first | with_reducible refine Ops.nil ?_ | refine z_p (kk := ?_) | refine z_l (kk := ?_) | refine z_f (kk := ?_) | refine z_d (kk := ?_)))
  refine W.endl ?_
  refine Wi.sub (ρ' := [(0, .func (.yield lp) #[] #[]), (1, .pointer (some ⟨b1, 0, none⟩)), (8, .int .i64 l.length), (9, .int .i64 0)]) (by repeat (first | exact trivial | refine And.intro rfl ?_)) ?_
  clear hG hGB hGT hGD hB
  refine Wi.block (Wi.loop (m := l.length) (fun m ρ w1 => ∃ i : Nat, m = l.length - i ∧ i ≤ l.length ∧ ρ = [(0, .func (.yield lp) #[] #[]), (1, .pointer (some ⟨b1, 0, none⟩)), (8, .int .i64 l.length), (9, .int .i64 i)] ∧ J i w1) ⟨0, rfl, Nat.zero_le _, rfl, h0⟩ ?_)
  rintro m ρ w1 ⟨i, rfl, hi, rfl, hj⟩
  obtain ⟨hB, hG⟩ := hJ _ _ hj
  refine Wi.seq (Wi.regionN rfl rfl ?_)
  (repeat (first | with_reducible refine Ops.nil ?_ | refine z_p (kk := ?_)))
  refine W.endl ?_
  refine Wi.seq (Wi.cond rfl (fun hc => ?_) (fun hc => ?_))
  · have hil : i < l.length := by simpa using hc
    refine Wi.skip ?_
    refine Wi.seq (Wi.block (Wi.seq (Wi.regionN rfl rfl ?_)))
    (repeat (first | with_reducible refine Ops.nil ?_ | refine z_p (kk := ?_)))
    refine W.endl ?_
    refine Wi.seq (Wi.region ?_)
    refine OpsI.split 4 rfl rfl rfl rfl ?_
    (repeat (first | refine z_p (kk := ?_) | refine z_d (kk := ?_)))
    refine Ops.callS rfl rfl rfl rfl rfl (isLeaf_c hG i (by omega) (by omega)) ?_
    cases hlf : leafB l i with
    | true =>
      (repeat (first | refine z_p (kk := ?_)))
      refine Ops.nil (W.endl ?_)
      refine OpsI.split 2 rfl rfl rfl rfl ?_
      (repeat (first | refine z_p (kk := ?_) | refine z_y (kk := ?_)))
      refine Ops.nil (W.endl ?_)
      obtain ⟨fn, tmps, assign, body, hr, hR⟩ := hyes i w1 hj hil hlf
      refine OpsI.yield rfl rfl rfl rfl rfl rfl rfl rfl ⟨fn, tmps, assign, body, hr, hR.mono fun e W' he => ⟨he.1, ?_⟩⟩
      have hj2 := he.2
      refine OpsI.split 2 rfl rfl rfl rfl ?_
      (repeat (first | refine z_p (kk := ?_) | refine z_y (kk := ?_)))
      refine Ops.nil (W.endl (OpsI.nil ?_))
      refine Wi.cond rfl (fun hc => ?_) (fun _ => Wi.skip ?_)
      · simp at hc
      refine Wi.regionN rfl rfl ?_
      (repeat (first | with_reducible refine Ops.nil ?_ | refine z_p (kk := ?_) | refine z_a (kk := ?_)))
      exact W.endl ⟨_, _, ⟨⟨i + 1, rfl, by omega, rfl, hj2⟩, by omega⟩, (by repeat (first | exact trivial | refine And.intro rfl ?_))⟩
    | false =>
      (repeat (first | refine z_p (kk := ?_)))
      refine Ops.nil (W.endl ?_)
      refine OpsI.split 5 rfl rfl rfl rfl ?_
      (repeat (first | refine z_p (kk := ?_) | refine z_n (kk := ?_)))
      refine Ops.nil (W.endl (OpsI.nil ?_))
      refine Wi.cond rfl (fun hc => ?_) (fun _ => Wi.skip ?_)
      · simp at hc
      refine Wi.regionN rfl rfl ?_
      (repeat (first | with_reducible refine Ops.nil ?_ | refine z_p (kk := ?_) | refine z_a (kk := ?_)))
      exact W.endl ⟨_, _, ⟨⟨i + 1, rfl, by omega, rfl, hno i w1 hj hil hlf⟩, by omega⟩, (by repeat (first | exact trivial | refine And.intro rfl ?_))⟩
  · have : i = l.length := by simp at hc; omega
    subst this
    refine Wi.exit ?_
    show ite _ _ _
    rw [if_pos rfl]
    exact ⟨.inl rfl, _, rfl, hj⟩
end Go.Proofs.Ytdiljpnfochndaa
namespace Go.Proofs.Ytdiljpnfochndaa
open Go Go.RowKit Go.Proofs.Ytdiljpnfochndaa.VW
open Go.Proofs.Ytdiljpnfochndaa.HP (Nd kid wor leafB rd evB gameOf gameOf_TF TF TK ValP k_)
attribute [local irreducible] W Ops OrdA VW.Ord OrdX Wi OpsI
theorem index_c {w : World} {v : Value} {xs : List Int} {x : Int} (h : SlI w v xs) (hl : xs.length ≤ 9223372036854775807) :
    Calls Try.prog 96 #[v, .int .i64 x] w (Ret fun r w' => w' = w ∧ ∃ j : Int, r = .int .i64 j ∧ (0 ≤ j ↔ x ∈ xs)) := by
  obtain ⟨A, c, rfl⟩ := Sl.sl h
  refine calls_W (vs := [_, _]) Try.func96 rfl (by kernel_rfl) rfl ?_
  (repeat (first | with_reducible refine W.seq ?_ | with_reducible refine Ops.nil ?_ | with_reducible refine W.region ?_ | refine z_p (kk := ?_) | with_reducible refine W.block ?_ | refine z_l (kk := ?_)))
  refine W.loop (fun m ρ w1 => ∃ i : Nat, m = xs.length - i ∧ i ≤ xs.length ∧ ρ = [(0, .slice A xs.length c), (1, .int .i64 x), (7, .int .i64 xs.length), (8, .int .i64 i)] ∧ w1 = w ∧ ∀ j : Nat, j < i → xs.getD j 0 ≠ x)
    ⟨_, _, ⟨0, rfl, Nat.zero_le _, rfl, rfl, fun j h => by omega⟩, (by repeat (first | exact trivial | refine And.intro rfl ?_))⟩ ?_
  rintro m ρ w1 ⟨i, rfl, hi, rfl, rfl, hn⟩
  (repeat (first | with_reducible refine W.seq ?_ | with_reducible refine Ops.nil ?_ | with_reducible refine W.region ?_ | refine z_p (kk := ?_)))
  (first | refine W.condD rfl (fun hc => ?_) (fun hc => ?_) | refine W.condE rfl (fun hc => ?_) (fun hc => ?_) | refine W.condN rfl (fun hc => ?_) (fun hc => ?_) | refine W.cond rfl (fun hc => ?_) (fun hc => ?_))
  · have hil : i < xs.length := by omega
    (repeat (first | with_reducible refine W.seq ?_ | with_reducible refine Ops.nil ?_ | with_reducible refine W.region ?_ | refine z_p (kk := ?_) | with_reducible refine W.skip ?_ | with_reducible refine W.block ?_ | refine z_I (kk := fun _ => ?_)))
    by_cases e : x = xs.getD i 0
    · refine W.condT rfl (by first | rfl | assumption | (simp only [bnf] <;> omega) | (simp only [*, bnf]; done) | fail) ?_
      (repeat (first | with_reducible refine W.seq ?_ | with_reducible refine Ops.nil ?_ | with_reducible refine W.region ?_ | refine z_p (kk := ?_)))
      refine W.fret rfl ⟨rfl, _, rfl, fun _ => ?_, fun _ => by omega⟩
      rw [e, List.getD_eq_getElem?_getD, List.getElem?_eq_getElem hil]
      simp
    · refine W.condF rfl (by first | rfl | assumption | (simp only [bnf] <;> omega) | (simp only [*, bnf]; done) | fail) ?_
      (repeat (first | with_reducible refine Ops.nil ?_ | with_reducible refine W.region ?_ | refine z_p (kk := ?_) | refine z_a (kk := ?_) | with_reducible refine W.skip ?_ | with_reducible refine W.endb ?_))
      refine W.endl ⟨_, _, ⟨⟨i + 1, rfl, by omega, rfl, rfl, fun j hj => ?_⟩, by omega⟩, (by repeat (first | exact trivial | refine And.intro rfl ?_))⟩
      by_cases ej : j = i
      · subst ej; exact fun h => e h.symm
      · exact hn j (by omega)
  · have : i = xs.length := by omega
    subst this
    (repeat (first | with_reducible refine W.seq ?_ | with_reducible refine Ops.nil ?_ | with_reducible refine W.region ?_ | refine z_p (kk := ?_) | refine W.exit rfl ?_))
    refine W.fret rfl ⟨rfl, _, rfl, fun h => by omega, fun hm => ?_⟩
    obtain ⟨j, hj, e⟩ := List.mem_iff_getElem.1 hm
    exact absurd (by rw [List.getD_eq_getElem?_getD, List.getElem?_eq_getElem hj]; simpa using e) (hn j hj)
theorem contains_c {w : World} {v : Value} {xs : List Int} {x : Int} (h : SlI w v xs) (hl : xs.length ≤ 9223372036854775807) :
    Calls Try.prog 82 #[v, .int .i64 x] w (Ret fun r w' => r = .bool (decide (x ∈ xs)) ∧ w' = w) := by
  refine calls_W (vs := [_, _]) Try.func82 rfl (by kernel_rfl) rfl ?_
  (repeat (first | with_reducible refine W.seq ?_ | with_reducible refine Ops.nil ?_ | with_reducible refine W.region ?_ | refine z_p (kk := ?_)))
  refine Ops.call rfl rfl rfl rfl rfl (index_c h hl) (fun r w1 hR => ?_)
  obtain ⟨rfl, j, rfl, hj⟩ := hR
  (repeat (first | with_reducible refine Ops.nil ?_ | refine z_p (kk := ?_)))
  refine W.fret rfl ⟨?_, rfl⟩
  show Value.bool _ = _
  congr 1
  rw [Bool.eq_iff_iff]
  simpa using hj
theorem equal_c {w : World} {v1 v2 : Value} {xs ys : List Int} (h1 : SlI w v1 xs) (h2 : SlI w v2 ys) (hl1 : xs.length ≤ 9223372036854775807) (hl2 : ys.length ≤ 9223372036854775807) :
    Calls Try.prog 83 #[v1, v2] w (Ret fun r w' => r = .bool (decide (xs = ys)) ∧ Below w.heap.size w w') := by
  obtain ⟨A, c, rfl⟩ := Sl.sl h1
  obtain ⟨A2, c2, rfl⟩ := Sl.sl h2
  refine calls_W (vs := [_, _]) Try.func83 rfl (by kernel_rfl) rfl ?_
  (repeat (first | with_reducible refine W.seq ?_ | with_reducible refine Ops.nil ?_ | with_reducible refine W.region ?_ | refine z_p (kk := ?_) | refine z_l (kk := ?_)))
  by_cases hle : xs.length = ys.length
  · refine W.condF rfl (by first | rfl | assumption | (simp only [bnf] <;> omega) | (simp only [*, bnf]; done) | fail) ?_
    (repeat (first | with_reducible refine W.seq ?_ | with_reducible refine Ops.nil ?_ | with_reducible refine W.region ?_ | refine z_p (kk := ?_) | with_reducible refine W.skip ?_ | with_reducible refine W.block ?_ | refine z_l (kk := ?_)))
    refine W.loop (fun m ρ w1 => ∃ i : Nat, m = xs.length - i ∧ i ≤ xs.length ∧ ρ = [(0, .slice A xs.length c), (1, .slice A2 ys.length c2), (12, .int .i64 xs.length), (13, .int .i64 i)] ∧ Below w.heap.size w w1 ∧ ∀ j : Nat, j < i → xs.getD j 0 = ys.getD j 0)
      ⟨_, _, ⟨0, rfl, Nat.zero_le _, rfl, Below.refl _ _, fun j h => by omega⟩, (by repeat (first | exact trivial | refine And.intro rfl ?_))⟩ ?_
    rintro m ρ w1 ⟨i, rfl, hi, rfl, hb1, hn⟩
    (repeat (first | with_reducible refine W.seq ?_ | with_reducible refine Ops.nil ?_ | with_reducible refine W.region ?_ | refine z_p (kk := ?_)))
    (first | refine W.condD rfl (fun hc => ?_) (fun hc => ?_) | refine W.condE rfl (fun hc => ?_) (fun hc => ?_) | refine W.condN rfl (fun hc => ?_) (fun hc => ?_) | refine W.cond rfl (fun hc => ?_) (fun hc => ?_))
    · have hil : i < xs.length := by omega
      (repeat (first | with_reducible refine W.seq ?_ | with_reducible refine Ops.nil ?_ | with_reducible refine W.region ?_ | refine z_p (kk := ?_) | with_reducible refine W.skip ?_ | with_reducible refine W.block ?_))
      refine W.ordA 99 [(0, 1), (1, 1), (2, 1), (3, 2), (4, 1), (5, 1), (6, 1), (7, 2), (8, 1)] rfl (by kernel_rfl) rfl (by kernel_rfl) (fun _ _ _ h => h) ?_
      (repeat (first | refine x_p (kk := ?_) | refine x_I (kk := fun _ => ?_)))
      refine OrdA.nil (fun w4 hb4 => ?_)
      have hb04 := Below.via hb1 hb4
      by_cases e : xs.getD i 0 = ys.getD i 0
      · refine W.condF rfl (by first | rfl | assumption | (simp only [bnf] <;> omega) | (simp only [*, bnf]; done) | fail) ?_
        (repeat (first | with_reducible refine Ops.nil ?_ | with_reducible refine W.region ?_ | refine z_p (kk := ?_) | refine z_a (kk := ?_) | with_reducible refine W.skip ?_ | with_reducible refine W.endb ?_))
        refine W.endl ⟨_, _, ⟨⟨i + 1, rfl, by omega, rfl, hb04, fun j hj => ?_⟩, by omega⟩, (by repeat (first | exact trivial | refine And.intro rfl ?_))⟩
        by_cases ej : j = i
        · subst ej; exact e
        · exact hn j (by omega)
      · refine W.condT rfl (by first | rfl | assumption | (simp only [bnf] <;> omega) | (simp only [*, bnf]; done) | fail) ?_
        (repeat (first | with_reducible refine W.seq ?_ | with_reducible refine Ops.nil ?_ | with_reducible refine W.region ?_ | refine z_p (kk := ?_)))
        refine W.fret rfl ⟨?_, hb04⟩
        rw [decide_eq_false]
        · rfl
        · intro h; exact e (by rw [h])
    · have : i = xs.length := by omega
      subst this
      (repeat (first | with_reducible refine W.seq ?_ | with_reducible refine Ops.nil ?_ | with_reducible refine W.region ?_ | refine z_p (kk := ?_) | refine W.exit rfl ?_))
      refine W.fret rfl ⟨?_, hb1⟩
      rw [decide_eq_true]
      · rfl
      · apply List.ext_getElem hle
        intro j h1 h2
        have := hn j h1
        simpa [List.getD_eq_getElem?_getD, h1, h2] using this
  · refine W.condT rfl (by first | rfl | assumption | (simp only [bnf] <;> omega) | (simp only [*, bnf]; done) | fail) ?_
    (repeat (first | with_reducible refine W.seq ?_ | with_reducible refine Ops.nil ?_ | with_reducible refine W.region ?_ | refine z_p (kk := ?_)))
    refine W.fret rfl ⟨?_, Below.refl _ _⟩
    rw [decide_eq_false]
    · rfl
    · intro h; exact hle (by rw [h])
end Go.Proofs.Ytdiljpnfochndaa
namespace Go.Proofs.Ytdiljpnfochndaa
open Go Go.RowKit Go.Proofs.Ytdiljpnfochndaa.VW
open Go.Proofs.Ytdiljpnfochndaa.HP (Nd kid wor leafB rd evB gameOf gameOf_TF TF TK ValP k_ PI PlanS)
attribute [local irreducible] W Ops OrdA VW.Ord OrdX Wi OpsI
def chk (l : List Nd) (xs : List Int) (i : Int) : Int := if rd xs i ∈ kid l i then rd xs i else (kid l i).getD 0 0
theorem check1_c {wB w : World} {b1 b2 b3 : Nat} {tv xv : Value} {l : List Nd} {dep xs : List Int} {q : Bool} (hT : TF l dep) (h1 : Blk wB b1 #[tv] 22) (hTr : TreeM wB tv l) (h2 : Blk wB b2 #[xv] 24) (hX : SlI wB xv xs) (hxl : xs.length = l.length) (hb0 : Below wB.heap.size wB w) (hb3 : wB.heap.size ≤ b3) (h3 : Blk w b3 #[.bool q] 4)
    (i : Nat) (hi : i < l.length) (hlf : leafB l i = false) :
    Calls Try.prog 81 #[.int .i64 i, .pointer (some ⟨b1, 0, none⟩), .pointer (some ⟨b2, 0, none⟩), .pointer (some ⟨b3, 0, none⟩)] w (Ret fun v w' => v = .int .i64 (chk l xs i) ∧ Below wB.heap.size wB w' ∧ Kp (fun k => k = b3) w w' ∧ Blk w' b3 #[.bool (q && decide (rd xs i ∈ kid l i))] 4) := by
  obtain ⟨At, ct, rfl⟩ := hTr.sl
  obtain ⟨Ax, cx, rfl⟩ := Sl.sl hX
  have hkl := hT.klen i hi
  have hn60 := hT.n60
  have hk0 : 0 < (kid l i).length := by unfold leafB at hlf; cases hk : kid l i with | nil => rw [hk] at hlf; simp at hlf | cons _ _ => simp
  have hrd : rd xs i = xs.getD i 0 := rfl
  refine calls_W (vs := [_, _, _, _]) Try.func81 rfl (by kernel_rfl) rfl ?_
  (repeat (first | with_reducible refine W.seq ?_ | with_reducible refine Ops.nil ?_ | with_reducible refine W.region ?_ | refine z_p (kk := ?_)))
  refine W.ordA 99 [(0, 2), (1, 1), (2, 1), (3, 1), (4, 2), (5, 2), (6, 1), (7, 1), (8, 2), (9, 2), (10, 1)] rfl (by kernel_rfl) rfl (by kernel_rfl) (fun _ _ _ h => h) ?_
  (repeat (first | refine x_p (kk := ?_) | refine x_I (kk := fun _ => ?_) | refine x_k (kk := fun _ _ _ _ _ => ?_) | refine x_D (kk := ?_)))
  refine OrdA.call rfl rfl rfl rfl rfl rfl rfl (fun w' hw' => (contains_c (xs := kid l i) (Sl.below (by assumption) (Below.via hb0 hw')) (by omega)).mono fun e w'' ⟨v, he, hv⟩ => ⟨v, he, hv.1, by rw [hv.2]; exact hw'⟩) ?_
  (repeat (first | refine x_p (kk := ?_)))
  refine OrdA.nil (fun w4 hb4 => ?_)
  have h34 := h3.kp (Kp.of_below (S := fun _ => False) hb4) (fun e => e)
  have hb04 := Below.via hb0 hb4
  rw [hrd]
  by_cases hm : xs.getD i 0 ∈ kid l i
  · rw [decide_eq_true hm]
    have hc : chk l xs i = xs.getD i 0 := by unfold chk; rw [hrd, if_pos hm]
    refine W.condF rfl rfl ?_
    (repeat (first | with_reducible refine W.seq ?_ | with_reducible refine Ops.nil ?_ | with_reducible refine W.region ?_ | refine z_p (kk := ?_) | with_reducible refine W.skip ?_ | refine z_I (kk := fun _ => ?_) | refine z_D (kk := ?_)))
    exact W.fret rfl ⟨by rw [hc]; rfl, hb04, Kp.of_below hb4, by simpa using h34⟩
  · rw [decide_eq_false hm]
    have hc : chk l xs i = (kid l i).getD 0 0 := by unfold chk; rw [hrd, if_neg hm]
    refine W.condT rfl rfl ?_
    (repeat (first | with_reducible refine W.seq ?_ | with_reducible refine W.region ?_))
    refine Ops.st rfl rfl rfl rfl rfl rfl rfl h34 (by simp) (fun w5 hu => ?_)
    have hb5 : Kp (fun k => k = b3) w w5 := ((Kp.of_below (S := fun k => k = b3) hb4).trans hu.kp).mono (by intro k _ h; rcases h with h | h <;> exact h)
    have hb05 : Below wB.heap.size wB w5 := Below.put hb04 hu.kp (fun k hk => by omega)
    refine Ops.nil ?_
    (repeat (first | with_reducible refine W.seq ?_ | with_reducible refine Ops.nil ?_ | with_reducible refine W.region ?_ | refine z_p (kk := ?_) | refine z_I (kk := fun _ => ?_) | refine z_k (kk := fun _ _ _ _ _ => ?_) | refine z_D (kk := ?_)))
    exact W.fret rfl ⟨by rw [hc]; rfl, hb05, hb5, by simpa using hu.blk⟩
end Go.Proofs.Ytdiljpnfochndaa
namespace Go.Proofs.Ytdiljpnfochndaa
open Go Go.RowKit Go.Proofs.Ytdiljpnfochndaa.VW
open Go.Proofs.Ytdiljpnfochndaa.HP (Nd kid wor leafB rd gameOf gameOf_TF TF TK ValP bestM' lineN LineS line_step range_snoc k_)
attribute [local irreducible] W Ops OrdA VW.Ord OrdX
theorem FInv.oi {w0 w : World} {ov : Value} {os : List Int} (h : FInv w0 w ov os) : OI 3 (Value.int .i64) w0 w ov os := ⟨h.bel, h.own, h.ge⟩
theorem bestM_eq (vs : List Int) (x : Int) : ∀ cs, bestM vs x cs = bestM' vs x cs
  | [] => rfl
  | c :: r => by simp only [bestM, bestM', bestM_eq vs x r]
theorem bestM_leaf {l : List Nd} {vs : List Int} {x i : Int} (h : leafB l i = true) : bestM vs x (kid l i) = -1 := by
  have : kid l i = [] := by unfold leafB at h; simpa using h
  rw [this]; rfl
set_option maxHeartbeats 1000000 in
theorem line_c {w : World} {v : Value} {l : List Nd} (hT : TreeM w v l) (hl : l.length ≤ 9223372036854775807) :
    Calls Try.prog 40 #[v] w (Ret fun r w' => Below w.heap.size w w' ∧ match gameOf l with
      | none => r = .tuple #[.slice none 0 0, .int .i64 2]
      | some dep => ∃ vs u out, ValP l dep (wor l) vs ∧ LineS l vs out ∧ r = .tuple #[u, .int .i64 0] ∧ OI 3 (Value.int .i64) w w' u out) := by
  refine calls_W (vs := [_]) Try.func40 rfl (by kernel_rfl) rfl ?_
  (repeat (first | with_reducible refine W.seq ?_ | with_reducible refine Ops.nil ?_ | with_reducible refine W.region ?_ | refine z_p (kk := ?_)))
  refine Ops.call rfl rfl rfl rfl rfl (newGame_c hT hl) (fun r w1 hR => ?_)
  obtain ⟨hb1, hR⟩ := hR
  cases hg : gameOf l with
  | none =>
    rw [hg] at hR
    obtain ⟨p, hp1, rfl⟩ := hR
    (repeat (first | with_reducible refine W.seq ?_ | with_reducible refine Ops.nil ?_ | with_reducible refine W.region ?_ | refine z_p (kk := ?_)))
    refine W.condT rfl (by first | rfl | assumption | (simp only [bnf] <;> omega) | (simp only [*, bnf]; done) | fail) ?_
    (repeat (first | with_reducible refine W.seq ?_ | with_reducible refine Ops.nil ?_ | with_reducible refine W.region ?_ | refine z_p (kk := ?_)))
    exact W.fret rfl ⟨hb1, rfl⟩
  | some dep =>
    rw [hg] at hR
    obtain ⟨g, rfl, hgs, hG⟩ := hR
    have hTF := gameOf_TF hg
    have hn1 := hTF.n1
    have hn60 := hTF.n60
    (repeat (first | with_reducible refine W.seq ?_ | with_reducible refine Ops.nil ?_ | with_reducible refine W.region ?_ | refine z_p (kk := ?_)))
    refine W.condF rfl (by first | rfl | assumption | (simp only [bnf] <;> omega) | (simp only [*, bnf]; done) | fail) ?_
    (repeat (first | with_reducible refine W.seq ?_ | with_reducible refine W.region ?_ | refine z_p (kk := ?_) | with_reducible refine W.skip ?_))
    refine Ops.call rfl rfl rfl rfl rfl (values_c hG hTF (Clo.worth hG)) (fun r w2 hR => ?_)
    obtain ⟨vs, hvs, hI⟩ := hR
    have hb2 := Below.via hb1 hI.bel
    have hvl := hvs.len
    have hG2 := hG.below hI.bel
    have hv2 : SlI w2 r vs := hI.sl
    obtain ⟨Av, cv, rfl⟩ := Sl.sl hv2
    have hkin : ∀ i : Nat, i < l.length → ∀ j, j < (kid l i).length → 0 ≤ (kid l i).getD j 0 ∧ (kid l i).getD j 0 < l.length := fun i hi j hj => by
      have := hTF.kin i j hi hj
      simp only [k_] at this
      omega
    (repeat (first | with_reducible refine W.seq ?_ | with_reducible refine Ops.nil ?_ | with_reducible refine W.region ?_ | refine z_p (kk := ?_)))
    refine Ops.bs1 rfl rfl rfl rfl rfl rfl rfl rfl rfl (fun w3 r3 hM3 => ?_)
    have hb3 : Below w2.heap.size w2 w3 := Below.put (Below.refl _ _) hM3.kp (fun _ e => e.elim)
    have hO3 : OI 3 (Value.int .i64) w2 w3 (.slice (some ⟨r3, 0, none⟩) 1 1) [0] := ⟨hb3, own_one hM3, fun k hk => by simp [Value.ownBlock] at hk; have := hM3.r_eq; omega⟩
    (repeat (first | with_reducible refine W.seq ?_ | with_reducible refine Ops.nil ?_ | with_reducible refine W.region ?_ | refine z_p (kk := ?_)))
    refine Ops.call rfl rfl rfl rfl rfl (best_c (hG2.below hb3) (Sl.below hv2 hb3) hvl ((0 : Nat) : Int) (by omega) (by omega) (hkin 0 (by omega))) (fun r w4 hR => ?_)
    obtain ⟨rfl, hb4⟩ := hR
    have hO4 := hO3.below hb4
    (repeat (first | with_reducible refine Ops.nil ?_ | refine z_p (kk := ?_) | with_reducible refine W.block ?_))
    refine W.loop (fun m ρ w5 => ∃ (k i : Nat) (ov : Value), m = l.length - i ∧ i < l.length ∧ k ≤ i ∧ lineN l vs k = i ∧ ρ = [(4, .pointer (some ⟨g, 0, none⟩)), (6, .slice Av vs.length cv), (7, ov), (8, .int .i64 (bestM vs (rd vs i) (kid l i)))] ∧ OI 3 (Value.int .i64) w2 w5 ov ((List.range (k + 1)).map (lineN l vs)) ∧ ∀ j, j < k → leafB l (lineN l vs j) = false)
      ⟨_, _, ⟨0, 0, _, rfl, by omega, Nat.le_refl _, rfl, rfl, hO4, fun j hj => by omega⟩, (by repeat (first | exact trivial | refine And.intro rfl ?_))⟩ ?_
    rintro m ρ w5 ⟨k, i, ov, rfl, hi, hk60, hki, rfl, hO, hnl⟩
    have hb5 := hO.bel
    have hb05 := Below.via hb2 hb5
    cases hlf : leafB l i with
    | true =>
      rw [bestM_leaf hlf]
      (repeat (first | with_reducible refine W.seq ?_ | with_reducible refine Ops.nil ?_ | with_reducible refine W.region ?_ | refine z_p (kk := ?_)))
      refine W.condF rfl (by first | rfl | assumption | (simp only [bnf] <;> omega) | (simp only [*, bnf]; done) | fail) ?_
      (repeat (first | with_reducible refine W.seq ?_ | with_reducible refine Ops.nil ?_ | with_reducible refine W.region ?_ | refine z_p (kk := ?_) | refine W.exit rfl ?_))
      exact W.fret rfl ⟨hb05, vs, _, _, hvs, ⟨k, rfl, hnl, by rw [hki]; exact hlf⟩, rfl, hO.up hb2⟩
    | false =>
      obtain ⟨j, hj1, hj2, hj3, _⟩ := line_step hTF hvs hki hi hlf
      have hbj : bestM vs (rd vs i) (kid l i) = j := by rw [bestM_eq, ← hj1, ← hki]; rfl
      rw [hbj]
      (repeat (first | with_reducible refine W.seq ?_ | with_reducible refine Ops.nil ?_ | with_reducible refine W.region ?_ | refine z_p (kk := ?_)))
      refine W.condT rfl (by first | rfl | assumption | (simp only [bnf] <;> omega) | (simp only [*, bnf]; done) | fail) ?_
      (repeat (first | with_reducible refine W.seq ?_ | with_reducible refine W.region ?_ | refine z_p (kk := ?_) | with_reducible refine W.skip ?_ | with_reducible refine W.block ?_))
      refine Ops.pushO (enc := Value.int .i64) rfl rfl rfl rfl rfl rfl rfl rfl rfl rfl rfl rfl (fun _ => rfl) rfl hO (by simp; omega) (fun lv' _ w6 hO6 _ _ => ?_)
      have hb26 := hO6.bel
      rw [← hj1, ← range_snoc] at hO6
      (repeat (first | with_reducible refine Ops.nil ?_ | with_reducible refine W.region ?_ | refine z_p (kk := ?_) | with_reducible refine W.endb ?_))
      refine Ops.call rfl rfl rfl rfl rfl (best_c (hG2.below hb26) (Sl.below hv2 hb26) hvl (j : Int) (by omega) (by omega) (hkin j hj3)) (fun r w7 hR => ?_)
      obtain ⟨rfl, hb7⟩ := hR
      have hO7 := hO6.below hb7
      (repeat (first | with_reducible refine Ops.nil ?_ | refine z_p (kk := ?_)))
      exact W.endl ⟨_, _, ⟨⟨k + 1, j, _, rfl, hj3, by omega, hj1, rfl, hO7, fun q hq => by by_cases e : q = k; subst e; rw [hki]; exact hlf; exact hnl q (by omega)⟩, by omega⟩, (by repeat (first | exact trivial | refine And.intro rfl ?_))⟩
set_option maxHeartbeats 1000000 in
theorem refFirst_c {w : World} {v sv : Value} {l : List Nd} {dep vs : List Int} {i : Nat} (hTr : TreeM w v l) (hT : TF l dep) (hV : SlI w sv vs) (hvl : vs.length = l.length) (hi : i < l.length) (he : ∃ c ∈ kid l i, rd vs c = rd vs i) :
    Calls Try.prog 77 #[v, sv, .int .i64 i] w (Ret fun r w' => r = .int .i64 (bestM' vs (rd vs i) (kid l i)) ∧ Below w.heap.size w w') := by
  obtain ⟨At, ct, rfl⟩ := hTr.sl
  obtain ⟨Av, cv, rfl⟩ := Sl.sl hV
  have hkl := hT.klen i hi
  refine calls_W (vs := [_, _, _]) Try.func77 rfl (by kernel_rfl) rfl ?_
  (repeat (first | with_reducible refine W.seq ?_ | with_reducible refine Ops.nil ?_ | with_reducible refine W.region ?_ | refine z_p (kk := ?_) | with_reducible refine W.block ?_))
  refine W.loop (fun m ρ w3 => ∃ k : Nat, m = (kid l i).length - k ∧ ρ = [(0, .slice At l.length ct), (1, .slice Av vs.length cv), (2, .int .i64 i), (7, .int .i64 k)] ∧ Below w.heap.size w w3 ∧ bestM' vs (rd vs i) ((kid l i).drop k) = bestM' vs (rd vs i) (kid l i) ∧ ∃ c ∈ (kid l i).drop k, rd vs c = rd vs i)
    ⟨_, _, ⟨0, rfl, rfl, Below.refl _ _, rfl, he⟩, (by repeat (first | exact trivial | refine And.intro rfl ?_))⟩ ?_
  rintro m ρ w3 ⟨k, rfl, rfl, hb3, hbe, hex⟩
  have hkl2 : k < (kid l i).length := by
    rcases Nat.lt_or_ge k (kid l i).length with h | h
    · exact h
    · rw [List.drop_eq_nil_of_le h] at hex
      obtain ⟨c, hc, _⟩ := hex
      simp at hc
  have hkin := hT.kin i k hi hkl2
  simp only [k_] at hkin
  rw [Go.Proofs.Ytdiljpnfochndaa.HP.drop_get _ _ (0 : Int) hkl2] at hbe hex
  simp only [bestM'] at hbe
  (repeat (first | with_reducible refine W.seq ?_))
  refine W.ordA 99 [(0, 1), (1, 1), (2, 1), (3, 1), (4, 1), (5, 2), (6, 1), (7, 1), (8, 2), (9, 1), (10, 2), (11, 1), (12, 1), (13, 1), (14, 2), (15, 1)] rfl (by kernel_rfl) rfl (by kernel_rfl) (fun _ _ _ h => h) ?_
  (repeat (first | refine x_p (kk := ?_) | refine x_I (kk := fun _ => ?_) | refine x_K (kk := fun _ => ?_) | refine x_k (kk := fun _ _ _ _ _ => ?_)))
  refine OrdA.nil (fun w4 hb4 => ?_)
  have hb04 := Below.via hb3 hb4
  by_cases hq : rd vs ((kid l i).getD k 0) = rd vs i
  · rw [if_pos hq] at hbe
    have hq' : vs.getD ((kid l i).getD k 0).toNat 0 = vs.getD i 0 := hq
    refine W.condF rfl (by first | rfl | assumption | (simp only [bnf] <;> omega) | (simp only [*, bnf]; done) | fail) ?_
    (repeat (first | with_reducible refine W.seq ?_ | with_reducible refine Ops.nil ?_ | with_reducible refine W.region ?_ | refine z_p (kk := ?_) | refine W.exit rfl ?_ | refine z_I (kk := fun _ => ?_) | refine z_k (kk := fun _ _ _ _ _ => ?_)))
    exact W.fret rfl ⟨by rw [← hbe]; rfl, hb04⟩
  · rw [if_neg hq] at hbe
    have hq' : ¬ vs.getD ((kid l i).getD k 0).toNat 0 = vs.getD i 0 := hq
    refine W.condT rfl (by first | rfl | assumption | (simp only [bnf] <;> omega) | (simp only [*, bnf]; done) | fail) ?_
    (repeat (first | with_reducible refine Ops.nil ?_ | with_reducible refine W.region ?_ | refine z_p (kk := ?_) | refine z_a (kk := ?_) | with_reducible refine W.skip ?_ | with_reducible refine W.endb ?_ | with_reducible refine W.block ?_))
    refine W.endl ⟨_, _, ⟨⟨k + 1, rfl, rfl, hb04, hbe, ?_⟩, by omega⟩, (by repeat (first | exact trivial | refine And.intro rfl ?_))⟩
    obtain ⟨c, hc, hce⟩ := hex
    rcases List.mem_cons.1 hc with rfl | hc
    · exact absurd hce hq
    · exact ⟨c, hc, hce⟩
set_option maxHeartbeats 1000000 in
theorem refLine_c {w : World} {v : Value} {l : List Nd} {dep : List Int} (hTr : TreeM w v l) (hT : TF l dep) :
    Calls Try.prog 42 #[v] w (Ret fun r w' => ∃ vs out, ValP l dep (wor l) vs ∧ LineS l vs out ∧ OI 3 (Value.int .i64) w w' r out) := by
  obtain ⟨At, ct, rfl⟩ := hTr.sl
  have hn1 := hT.n1
  have hn60 := hT.n60
  refine calls_W (vs := [_]) Try.func42 rfl (by kernel_rfl) rfl ?_
  (repeat (first | with_reducible refine W.seq ?_ | with_reducible refine Ops.nil ?_ | with_reducible refine W.region ?_ | refine z_p (kk := ?_)))
  refine Ops.call rfl rfl rfl rfl rfl (refValues_c hTr hT) (fun r w2 hR => ?_)
  obtain ⟨vs, hI, hvs⟩ := hR
  have hb2 := hI.bel
  have hvl := hvs.len
  have hT2 := hTr.below hb2
  have hv2 : SlI w2 r vs := hI.sl
  obtain ⟨Av, cv, rfl⟩ := Sl.sl hv2
  (repeat (first | with_reducible refine W.seq ?_ | with_reducible refine Ops.nil ?_ | with_reducible refine W.region ?_ | refine z_p (kk := ?_)))
  refine Ops.bs1 rfl rfl rfl rfl rfl rfl rfl rfl rfl (fun w3 r3 hM3 => ?_)
  have hb3 : Below w2.heap.size w2 w3 := Below.put (Below.refl _ _) hM3.kp (fun _ e => e.elim)
  have hO3 : OI 3 (Value.int .i64) w2 w3 (.slice (some ⟨r3, 0, none⟩) 1 1) [0] := ⟨hb3, own_one hM3, fun k hk => by simp [Value.ownBlock] at hk; have := hM3.r_eq; omega⟩
  (repeat (first | with_reducible refine W.seq ?_ | with_reducible refine Ops.nil ?_ | with_reducible refine W.region ?_ | refine z_p (kk := ?_) | with_reducible refine W.block ?_))
  refine W.loop (fun m ρ w5 => ∃ (k i : Nat) (ov : Value), m = l.length - i ∧ i < l.length ∧ k ≤ i ∧ lineN l vs k = i ∧ ρ = [(0, .slice At l.length ct), (3, .slice Av vs.length cv), (4, ov), (5, .int .i64 i)] ∧ OI 3 (Value.int .i64) w2 w5 ov ((List.range (k + 1)).map (lineN l vs)) ∧ ∀ j, j < k → leafB l (lineN l vs j) = false)
    ⟨_, _, ⟨0, 0, _, rfl, by omega, Nat.le_refl _, rfl, rfl, hO3, fun j hj => by omega⟩, (by repeat (first | exact trivial | refine And.intro rfl ?_))⟩ ?_
  rintro m ρ w5 ⟨k, i, ov, rfl, hi, hk60, hki, rfl, hO, hnl⟩
  have hb5 := hO.bel
  (repeat (first | with_reducible refine W.seq ?_ | with_reducible refine W.region ?_ | refine z_p (kk := ?_) | refine z_s (kk := fun _ _ _ _ => ?_)))
  refine Ops.call rfl rfl rfl rfl rfl (leaf_c (Sl.below (by assumption) hb5) rfl) (fun r w6 hR => ?_)
  obtain ⟨rfl, hb6⟩ := hR
  have hO6 := hO.below hb6
  have hb06 := hO6.bel
  cases hlf : leafB l i with
  | true =>
    have hk0 : (kid l i).length = 0 := by simpa [leafB] using hlf
    (repeat (first | with_reducible refine Ops.nil ?_ | refine z_p (kk := ?_)))
    refine W.condF rfl (by first | rfl | assumption | (simp only [bnf] <;> omega) | (simp only [*, bnf]; done) | fail) ?_
    (repeat (first | with_reducible refine W.seq ?_ | with_reducible refine Ops.nil ?_ | with_reducible refine W.region ?_ | refine z_p (kk := ?_) | refine W.exit rfl ?_))
    exact W.fret rfl ⟨vs, _, hvs, ⟨k, rfl, hnl, by rw [hki]; exact hlf⟩, hO6.up hb2⟩
  | false =>
    have hk0 : ¬ (kid l i).length = 0 := by simpa [leafB] using hlf
    obtain ⟨j, hj1, hj2, hj3, _⟩ := line_step hT hvs hki hi hlf
    have hbj : bestM' vs (rd vs i) (kid l i) = j := by rw [← hj1, ← hki]; rfl
    (repeat (first | with_reducible refine Ops.nil ?_ | refine z_p (kk := ?_)))
    refine W.condT rfl (by first | rfl | assumption | (simp only [bnf] <;> omega) | (simp only [*, bnf]; done) | fail) ?_
    (repeat (first | with_reducible refine W.seq ?_ | with_reducible refine W.region ?_ | refine z_p (kk := ?_) | with_reducible refine W.skip ?_ | with_reducible refine W.block ?_))
    refine Ops.call rfl rfl rfl rfl rfl (refFirst_c (hT2.below hb06) hT (Sl.below hv2 hb06) hvl hi (Go.Proofs.Ytdiljpnfochndaa.HP.val_att hvs hi hlf)) (fun r w7 hR => ?_)
    obtain ⟨rfl, hb7⟩ := hR
    rw [hbj]
    have hO7 := hO6.below hb7
    (repeat (first | with_reducible refine Ops.nil ?_ | with_reducible refine W.region ?_ | refine z_p (kk := ?_)))
    refine Ops.pushO (enc := Value.int .i64) rfl rfl rfl rfl rfl rfl rfl rfl rfl rfl rfl rfl (fun _ => rfl) rfl hO7 (by simp; omega) (fun lv' _ w8 hO8 _ _ => ?_)
    rw [← hj1, ← range_snoc] at hO8
    (repeat (first | with_reducible refine Ops.nil ?_ | refine z_p (kk := ?_) | with_reducible refine W.endb ?_))
    exact W.endl ⟨_, _, ⟨⟨k + 1, j, _, rfl, hj3, by omega, hj1, rfl, hO8, fun q hq => by by_cases e : q = k; subst e; rw [hki]; exact hlf; exact hnl q (by omega)⟩, by omega⟩, (by repeat (first | exact trivial | refine And.intro rfl ?_))⟩
set_option maxHeartbeats 2000000 in
theorem valuesLaw_c {w : World} {mv : Value} {l : List Nd} (hm : ArgT w mv l) :
    Calls Try.prog 9 #[mv] w (Ret fun r w' => r = .bool true ∧ Below w.heap.size w w') := by
  refine calls_W (vs := [_]) Try.func9 rfl (by kernel_rfl) rfl ?_
  (repeat (first | with_reducible refine W.seq ?_ | with_reducible refine Ops.nil ?_ | with_reducible refine W.region ?_ | refine z_p (kk := ?_)))
  refine Ops.call rfl rfl rfl rfl rfl (tree_c hm) (fun tv w1 hR => ?_)
  obtain ⟨hb1, hT1⟩ := hR
  have hlen := treeM_len l
  have hkl : ∀ i : Nat, i < (treeM l).length → (kid (treeM l) i).length ≤ 1000 := fun i _ => by have := treeM_kid l i; omega
  generalize treeM l = t at *
  obtain ⟨At, ct, rfl⟩ := hT1.sl
  clear hm
  (repeat (first | with_reducible refine W.seq ?_ | with_reducible refine Ops.nil ?_ | with_reducible refine W.region ?_ | refine z_p (kk := ?_)))
  refine Ops.call rfl rfl rfl rfl rfl (value_c hT1 (by omega)) (fun r w2 hR => ?_)
  obtain ⟨hb2, hR2⟩ := hR
  have hb02 := Below.via hb1 hb2
  have hT2 := hT1.below hb2
  cases hg : gameOf t with
  | none =>
    rw [hg] at hR2
    obtain rfl := hR2
    (repeat (first | with_reducible refine W.seq ?_ | with_reducible refine Ops.nil ?_ | with_reducible refine W.region ?_ | refine z_p (kk := ?_)))
    refine Ops.call rfl rfl rfl rfl rfl (valuesF_c hT2 (by omega)) (fun r w3 hR => ?_)
    obtain ⟨hb3, hR3⟩ := hR
    have hb03 := Below.via hb02 hb3
    have hT3 := hT2.below hb3
    rw [hg] at hR3
    obtain rfl := hR3
    (repeat (first | with_reducible refine W.seq ?_ | with_reducible refine Ops.nil ?_ | with_reducible refine W.region ?_ | refine z_p (kk := ?_)))
    refine Ops.call rfl rfl rfl rfl rfl (line_c hT3 (by omega)) (fun r w4 hR => ?_)
    obtain ⟨hb4, hR4⟩ := hR
    have hb04 := Below.via hb03 hb4
    have hT4 := hT3.below hb4
    rw [hg] at hR4
    obtain rfl := hR4
    (repeat (first | with_reducible refine W.seq ?_ | with_reducible refine Ops.nil ?_ | with_reducible refine W.region ?_ | refine z_p (kk := ?_)))
    refine Ops.call rfl rfl rfl rfl rfl (refTree_c hT4 hkl) (fun r w5 hR => ?_)
    obtain ⟨rfl, hb5⟩ := hR
    have hb05 := Below.via hb04 hb5
    rw [hg]
    (repeat (first | with_reducible refine Ops.nil ?_ | refine z_p (kk := ?_)))
    refine W.condT rfl (by first | rfl | assumption | (simp only [bnf] <;> omega) | (simp only [*, bnf]; done) | fail) ?_
    (repeat (first | with_reducible refine W.seq ?_ | with_reducible refine W.region ?_ | refine z_p (kk := ?_) | refine z_y (kk := ?_) | refine z_l (kk := ?_)))
    refine Ops.call rfl rfl rfl rfl rfl (awake_c _) (fun r w6 hR => ?_)
    obtain ⟨rfl, hb6⟩ := hR
    (repeat (first | with_reducible refine Ops.nil ?_ | refine z_p (kk := ?_)))
    exact W.fret rfl ⟨rfl, Below.via hb05 hb6⟩
  | some dep =>
    have hTF := gameOf_TF hg
    have hn1 := hTF.n1
    rw [hg] at hR2
    obtain ⟨vs, hvs, rfl⟩ := hR2
    (repeat (first | with_reducible refine W.seq ?_ | with_reducible refine Ops.nil ?_ | with_reducible refine W.region ?_ | refine z_p (kk := ?_)))
    refine Ops.call rfl rfl rfl rfl rfl (valuesF_c hT2 (by omega)) (fun r w3 hR => ?_)
    obtain ⟨hb3, hR3⟩ := hR
    have hb03 := Below.via hb02 hb3
    have hT3 := hT2.below hb3
    rw [hg] at hR3
    obtain ⟨vs2, u, hvs2, rfl, hI3⟩ := hR3
    obtain rfl := hvs2.uniq hTF hvs
    have hu3 := hI3.sl
    obtain ⟨Au, cu, rfl⟩ := Sl.sl hu3
    (repeat (first | with_reducible refine W.seq ?_ | with_reducible refine Ops.nil ?_ | with_reducible refine W.region ?_ | refine z_p (kk := ?_)))
    refine Ops.call rfl rfl rfl rfl rfl (line_c hT3 (by omega)) (fun r w4 hR => ?_)
    obtain ⟨hb4, hR4⟩ := hR
    have hb04 := Below.via hb03 hb4
    have hT4 := hT3.below hb4
    have hu4 := Sl.below hu3 hb4
    rw [hg] at hR4
    obtain ⟨vs3, u3, out, hvs3, hL, rfl, hI4⟩ := hR4
    obtain rfl := hvs3.uniq hTF hvs
    have ho4 : SlI w4 u3 out := hI4.sl
    obtain ⟨Ao, co, rfl⟩ := Sl.sl ho4
    (repeat (first | with_reducible refine W.seq ?_ | with_reducible refine Ops.nil ?_ | with_reducible refine W.region ?_ | refine z_p (kk := ?_)))
    refine Ops.call rfl rfl rfl rfl rfl (refTree_c hT4 hkl) (fun r w5 hR => ?_)
    obtain ⟨rfl, hb5⟩ := hR
    have hb05 := Below.via hb04 hb5
    have hT5 := hT4.below hb5
    have hu5 := Sl.below hu4 hb5
    have ho5 := Sl.below ho4 hb5
    rw [hg]
    (repeat (first | with_reducible refine Ops.nil ?_ | refine z_p (kk := ?_)))
    refine W.condF rfl (by first | rfl | assumption | (simp only [bnf] <;> omega) | (simp only [*, bnf]; done) | fail) ?_
    (repeat (first | with_reducible refine W.seq ?_ | with_reducible refine W.region ?_ | refine z_p (kk := ?_) | with_reducible refine W.skip ?_))
    refine Ops.call rfl rfl rfl rfl rfl (refValues_c hT5 hTF) (fun r w6 hR => ?_)
    obtain ⟨vs4, hI6, hvs4⟩ := hR
    obtain rfl := hvs4.uniq hTF hvs
    have hb6 := hI6.bel
    have hb06 := Below.via hb05 hb6
    have hT6 := hT5.below hb6
    have hu6 := Sl.below hu5 hb6
    have ho6 := Sl.below ho5 hb6
    have hv6 : SlI w6 r vs4 := hI6.sl
    have hvl := hvs.len
    obtain ⟨Av, cv, rfl⟩ := Sl.sl hv6
    (repeat (first | with_reducible refine W.seq ?_ | with_reducible refine Ops.nil ?_ | with_reducible refine W.region ?_ | refine z_p (kk := ?_) | refine z_K (kk := fun _ => ?_)))
    rw [show vs4.getD (Int.toNat 0) 0 = vs4.getD 0 0 from rfl]
    (repeat (first | refine z_p (kk := ?_) | refine z_y (kk := ?_) | refine z_h (kk := ?_)))
    refine Ops.call rfl rfl rfl rfl rfl (ints_c hu6 hv6) (fun r w7 hR => ?_)
    obtain ⟨rfl, hb7⟩ := hR
    have hb07 := Below.via hb06 hb7
    have hT7 := hT6.below hb7
    have ho7 := Sl.below ho6 hb7
    rw [decide_eq_true rfl]
    (repeat (first | refine z_p (kk := ?_) | refine z_y (kk := ?_)))
    refine Ops.call rfl rfl rfl rfl rfl (refLine_c hT7 hTF) (fun r w8 hR => ?_)
    obtain ⟨vs5, out2, hvs5, hL2, hI8⟩ := hR
    obtain rfl := hvs5.uniq hTF hvs
    obtain rfl := hL2.uniq hL
    have hb8 := hI8.bel
    have hb08 := Below.via hb07 hb8
    (repeat (first | refine z_y (kk := ?_)))
    refine Ops.call rfl rfl rfl rfl rfl (ints_c (Sl.below ho7 hb8) hI8.sl) (fun r w9 hR => ?_)
    obtain ⟨rfl, hb9⟩ := hR
    have hb09 := Below.via hb08 hb9
    rw [decide_eq_true rfl]
    (repeat (first | refine z_p (kk := ?_) | refine z_y (kk := ?_)))
    refine Ops.call rfl rfl rfl rfl rfl (awake_c _) (fun r w10 hR => ?_)
    obtain ⟨rfl, hb10⟩ := hR
    (repeat (first | with_reducible refine Ops.nil ?_ | refine z_p (kk := ?_)))
    exact W.fret rfl ⟨rfl, Below.via hb09 hb10⟩
end Go.Proofs.Ytdiljpnfochndaa
namespace Go.Proofs.Ytdiljpnfochndaa
open Go Go.RowKit Go.Proofs.Ytdiljpnfochndaa.VW
attribute [local irreducible] W Ops OrdA VW.Ord OrdX
theorem wrapU {n : Nat} (h : n ≤ 60) : IntKind.u64.wrap (n : Int) = n := by
  simp only [IntKind.wrap, IntKind.bits, IntKind.signed]
  simp
  omega
theorem mul64_c (n : Nat) (hn : n < 61) (w : World) : Calls Try.prog 118 #[.int .u64 1, .int .u64 n] w (Ret fun r w' => r = .tuple #[.int .u64 0, .int .u64 n] ∧ w' = w) := by
  refine calls_W (vs := [_, _]) Try.func118 rfl (by kernel_rfl) rfl ?_
  (repeat (first | with_reducible refine W.seq ?_ | with_reducible refine Ops.nil ?_ | with_reducible refine W.region ?_ | refine z_p (kk := ?_) | refine Ops.evG rfl rfl rfl (EV.bw rfl rfl rfl rfl) ?_ | refine Ops.evG rfl rfl rfl (EV.bsh rfl rfl rfl rfl) ?_))
  refine W.fret rfl ⟨?_, rfl⟩
  refine congr (congrArg (fun a b => Value.tuple #[.int .u64 a, .int .u64 b]) ?_) ?_
  · clear w
    obtain ⟨m, rfl⟩ : ∃ m : Fin 61, n = m.val := ⟨⟨n, hn⟩, rfl⟩
    clear hn
    revert m
    decide +kernel
  · clear w
    obtain ⟨m, rfl⟩ : ∃ m : Fin 61, n = m.val := ⟨⟨n, hn⟩, rfl⟩
    clear hn
    revert m
    decide +kernel
theorem mul_c (n : Nat) (hn : n < 61) (w : World) : Calls Try.prog 103 #[.int .u64 1, .int .u64 n] w (Ret fun r w' => r = .tuple #[.int .u64 0, .int .u64 n] ∧ w' = w) := by
  refine calls_W (vs := [_, _]) Try.func103 rfl (by kernel_rfl) rfl ?_
  (repeat (first | with_reducible refine W.seq ?_ | with_reducible refine Ops.nil ?_ | with_reducible refine W.region ?_ | refine z_p (kk := ?_)))
  refine W.condF rfl (by first | rfl | assumption | (simp only [bnf] <;> omega) | (simp only [*, bnf]; done) | fail) ?_
  (repeat (first | with_reducible refine W.seq ?_ | with_reducible refine W.region ?_ | refine z_p (kk := ?_) | with_reducible refine W.skip ?_))
  refine Ops.callS rfl rfl rfl rfl rfl (mul64_c n hn w) ?_
  (repeat (first | with_reducible refine W.seq ?_ | with_reducible refine Ops.nil ?_ | with_reducible refine W.region ?_ | refine z_p (kk := ?_)))
  exact W.fret rfl ⟨rfl, rfl⟩
set_option maxHeartbeats 1000000 in
theorem repeat_c {w : World} {v : Value} {n : Nat} (hv : SlI w v [-1]) (h1 : 1 ≤ n) (hn : n ≤ 60) : Calls Try.prog 95 #[v, .int .i64 n] w (Ret fun r w' => OI 3 (Value.int .i64) w w' r (List.replicate n (-1))) := by
  obtain ⟨A, c, rfl⟩ := Sl.sl hv
  refine calls_W (vs := [_, _]) Try.func95 rfl (by kernel_rfl) rfl ?_
  (repeat (first | with_reducible refine W.seq ?_ | with_reducible refine Ops.nil ?_ | with_reducible refine W.region ?_ | refine z_p (kk := ?_)))
  refine W.condF rfl (by first | rfl | assumption | (simp only [bnf] <;> omega) | (simp only [*, bnf]; done) | fail) ?_
  (repeat (first | with_reducible refine W.seq ?_ | with_reducible refine W.region ?_ | refine z_p (kk := ?_) | with_reducible refine W.skip ?_ | refine z_l (kk := ?_)))
  refine Ops.cv rfl rfl rfl rfl rfl rfl ?_
  (repeat (first | refine z_p (kk := ?_)))
  refine Ops.cv rfl rfl rfl rfl rfl rfl ?_
  rw [wrapU hn, show IntKind.u64.wrap (([-1] : List Int).length : Int) = 1 from rfl]
  skip
  refine Ops.callS rfl rfl rfl rfl rfl (mul_c n (by omega) w) ?_
  (repeat (first | with_reducible refine W.seq ?_ | with_reducible refine Ops.nil ?_ | with_reducible refine W.region ?_ | refine z_p (kk := ?_) | refine z_y (kk := ?_)))
  refine W.condF rfl (by first | rfl | assumption | (simp only [bnf] <;> omega) | (simp only [*, bnf]; done) | fail) ?_
  (repeat (first | with_reducible refine W.seq ?_ | with_reducible refine W.region ?_ | refine z_p (kk := ?_) | with_reducible refine W.skip ?_))
  refine Ops.cv rfl rfl rfl rfl rfl rfl ?_
  rw [wrap_in ⟨by omega, by omega⟩]
  refine Ops.mkO (w0 := w) (Value.int .i64) 0 rfl rfl rfl rfl rfl rfl rfl rfl rfl (by omega) rfl (Below.refl _ _) (fun w2 dr hO2 k2 _ => ?_)
  (repeat (first | with_reducible refine W.seq ?_ | with_reducible refine Ops.nil ?_ | with_reducible refine W.region ?_ | refine z_p (kk := ?_)))
  have hl2 : (List.replicate n (0 : Int)).length = n := by simp
  generalize List.replicate n (0 : Int) = os2 at *
  refine Ops.cpO (enc := Value.int .i64) (z := 0) rfl rfl rfl rfl rfl rfl rfl hO2 (Sl.kp hv k2 (fun _ _ e => e)) (by simp) (by omega) (fun _ => rfl) (fun w3 hO3 k3 _ => ?_)
  have hmin : min ([-1] : List Int).length n = 1 := by simp; omega
  rw [hmin] at hO3
  rw [hmin]
  have hO3' : ∃ os : List Int, OI 3 (Value.int .i64) w w3 (.slice (some ⟨dr, 0, none⟩) n n) os ∧ os.length = n ∧ ∀ j, j < 1 → os.getD j 0 = -1 := ⟨_, hO3, by simp [hl2]; omega, fun j hj => by
    have : j = 0 := by omega
    subst this
    obtain ⟨m, rfl⟩ : ∃ m, n = m + 1 := ⟨n - 1, by omega⟩
    simp⟩
  clear hO3 hO2 k2 k3 hl2
  obtain ⟨os3, hO3, hl3, hv3⟩ := hO3'
  (repeat (first | with_reducible refine W.seq ?_ | with_reducible refine Ops.nil ?_ | refine z_p (kk := ?_) | with_reducible refine W.block ?_))
  refine W.loop (fun m ρ w4 => ∃ (k : Nat) (os : List Int), m = n - k ∧ 1 ≤ k ∧ k ≤ n ∧ ρ = [(7, .slice (some ⟨dr, 0, none⟩) n n), (8, .int .i64 k)] ∧ OI 3 (Value.int .i64) w w4 (.slice (some ⟨dr, 0, none⟩) n n) os ∧ os.length = n ∧ ∀ j, j < k → os.getD j 0 = -1)
    ⟨_, _, ⟨1, os3, rfl, Nat.le_refl _, h1, rfl, hO3, hl3, hv3⟩, (by repeat (first | exact trivial | refine And.intro rfl ?_))⟩ ?_
  clear hO3 hl3 hv3
  rintro m ρ w4 ⟨k, os, rfl, hk1, hkn, rfl, hO, hol, hvs⟩
  (repeat (first | with_reducible refine W.seq ?_ | with_reducible refine Ops.nil ?_ | with_reducible refine W.region ?_ | refine z_p (kk := ?_) | refine z_l (kk := ?_)))
  (first | refine W.condD rfl (fun hc => ?_) (fun hc => ?_) | refine W.condE rfl (fun hc => ?_) (fun hc => ?_) | refine W.condN rfl (fun hc => ?_) (fun hc => ?_) | refine W.cond rfl (fun hc => ?_) (fun hc => ?_))
  · (repeat (first | with_reducible refine W.skip ?_ | with_reducible refine W.block ?_))
    refine W.ordA 7 [(0, 1), (1, 1), (2, 1), (3, 1), (4, 1), (5, 1), (6, 1), (7, 0), (8, 1), (9, 1)] rfl (by kernel_rfl) rfl (by kernel_rfl) (fun _ _ _ h => h) ?_
    (repeat (first | refine x_p (kk := ?_)))
    refine OrdA.pure rfl rfl rfl rfl (fun _ => EV.slO rfl rfl rfl rfl rfl (by omega) (by omega) (Nat.le_refl _)) ?_
    (repeat (first | refine x_p (kk := ?_)))
    refine OrdA.pure rfl rfl rfl rfl (fun _ => EV.slH rfl rfl rfl rfl rfl (by omega) (by omega)) ?_
    rw [Int.toNat_natCast]
    refine OrdA.eff rfl (fun w5 hb5 => ?_)
    have hO5 := hO.below hb5
    have hs5 : SlI w5 (.slice (some ⟨dr, 0, none⟩) k n) (os.take k) := sl_take (m := n) hO5.sl k (by omega)
    have hlk : (os.take k).length = k := by simp; omega
    refine Ops.cpO (enc := Value.int .i64) (z := 0) rfl rfl rfl rfl rfl rfl rfl hO5 hs5 (by omega) (by omega) (fun _ => rfl) (fun w6 hO6 k6 _ => Ops.nil (W.endl ?_))
    rw [hlk] at hO6 ⊢
    have hlen6 : (os.take k ++ (os.take k).take (n - k) ++ os.drop (k + min k (n - k))).length = n := by simp; omega
    have hv6 : ∀ j, j < k + min k (n - k) → (os.take k ++ (os.take k).take (n - k) ++ os.drop (k + min k (n - k))).getD j 0 = -1 := fun j hj => by
      have hl : (os.take k ++ (os.take k).take (n - k)).length = k + min k (n - k) := by simp; omega
      rw [List.getD_eq_getElem?_getD, List.getElem?_append_left (by omega)]
      by_cases e : j < k
      · rw [List.getElem?_append_left (by omega), List.getElem?_take, if_pos e, ← List.getD_eq_getElem?_getD]
        exact hvs j e
      · rw [List.getElem?_append_right (by omega), hlk, List.take_take, List.getElem?_take, if_pos (by omega), ← List.getD_eq_getElem?_getD]
        exact hvs _ (by omega)
    (repeat (first | refine y_p (kk := ?_) | refine y_a (kk := ?_)))
    refine VW.Ord.nil ?_
    rw [show (k : Int) + ((min k (n - k) : Nat) : Int) = ((k + min k (n - k) : Nat) : Int) by omega]
    (repeat (first | with_reducible refine W.endb ?_))
    exact W.endl ⟨_, _, ⟨⟨k + min k (n - k), _, rfl, by omega, by omega, rfl, hO6, hlen6, hv6⟩, by omega⟩, (by repeat (first | exact trivial | refine And.intro rfl ?_))⟩
  · have hkn2 : k = n := by omega
    subst hkn2
    have hos : os = List.replicate k (-1) := by
      apply List.ext_getElem (by simp [hol])
      intro j h1 h2
      have := hvs j (by omega)
      rw [List.getD_eq_getElem?_getD, List.getElem?_eq_getElem h1] at this
      simpa using this
    rw [hos] at hO
    (repeat (first | with_reducible refine W.seq ?_ | with_reducible refine Ops.nil ?_ | with_reducible refine W.region ?_ | refine z_p (kk := ?_) | refine W.exit rfl ?_))
    exact W.fret rfl hO
end Go.Proofs.Ytdiljpnfochndaa
namespace Go.Proofs.Ytdiljpnfochndaa
open Go Go.RowKit Go.Proofs.Ytdiljpnfochndaa.VW
open Go.Proofs.Ytdiljpnfochndaa.HP (Nd kid wor leafB rd evB gameOf gameOf_TF TF TK ValP k_ PI PlanS bestM')
attribute [local irreducible] W Ops OrdA VW.Ord OrdX
def asked (l : List Nd) (dep : List Int) (f : Int → Bool) (i : Nat) : List Int := ((List.range i).filter fun j : Nat => f j && evB dep j && !leafB l j).map fun j : Nat => (j : Int)
theorem asked_succ (l : List Nd) (dep : List Int) (f : Int → Bool) (i : Nat) : asked l dep f (i + 1) = asked l dep f i ++ if f i && evB dep i && !leafB l i then [(i : Int)] else [] := by
  unfold asked
  rw [List.range_succ, List.filter_append, List.map_append]
  congr 1
  by_cases h : (f i && evB dep i && !leafB l i) = true
  · simp [h]
  · simp [h]
theorem asked_congr {l : List Nd} {dep : List Int} {f g : Int → Bool} {i : Nat} (h : ∀ j : Nat, j < i → f j = g j) : asked l dep f i = asked l dep g i := by
  unfold asked
  congr 1
  apply List.filter_congr
  intro j hj
  rw [h j (by simpa using hj)]
theorem kp_false {S : Nat → Prop} {w w' : World} (h : Kp (fun _ => False) w w') : Kp S w w' := h.mono fun _ _ e => e.elim
set_option maxHeartbeats 4000000 in
theorem plan_c {wB w : World} {g fi : Nat} {l : List Nd} {dep : List Int} {first cap : List Value} {ch : Int → Int} {S : Nat → Prop} {J : List Int → World → Prop} (hG : Game wB g l dep) (hb : Below wB.heap.size wB w) (hT : TF l dep) (hfm : memB (Fns.L Try.prog) fi = true)
    (hch : ∀ i : Nat, i < l.length → leafB l i = false → ch i ∈ kid l i)
    (hcall : ∀ (t : List Int) (i : Nat) (w' : World), i < l.length → leafB l i = false → evB dep i = true → Below wB.heap.size wB w' → J t w' → Calls Try.prog fi (app3 first [.int .i64 i] cap).toArray w' (Ret fun v w'' => v = .int .i64 (ch i) ∧ Below wB.heap.size wB w'' ∧ J (t ++ [(i : Int)]) w'' ∧ Kp S w' w''))
    (hS : ∀ i, S i → wB.heap.size ≤ i ∧ i < w.heap.size) (hJ : ∀ t w1 w2 (T : Nat → Prop), J t w1 → Kp T w1 w2 → (∀ i, T i → w.heap.size ≤ i) → J t w2) (h0 : J [] w) :
    Calls Try.prog 78 #[.pointer (some ⟨g, 0, none⟩), .func (.func fi) first.toArray cap.toArray] w (Ret fun r w' => ∃ f out, PlanS l dep ch f out ∧ OI 3 (Value.int .i64) wB w' r out ∧ J (asked l dep f l.length) w') := by
  obtain ⟨tv, dv, hBg, hTr, hD⟩ := hG.out
  obtain ⟨At, ct, rfl⟩ := hTr.sl
  have hn1 := hT.n1
  have hn60 := hT.n60
  have hdl := hT.len
  have hws := hb.size
  refine calls_W (vs := [_, _]) Try.func78 rfl (by kernel_rfl) rfl ?_
  (repeat (first | with_reducible refine W.seq ?_ | with_reducible refine Ops.nil ?_ | with_reducible refine W.region ?_ | refine z_p (kk := ?_)))
  refine Ops.bs1 rfl rfl rfl rfl rfl rfl rfl rfl rfl (fun w1 r1 hM1 => ?_)
  have hb1 : Below wB.heap.size wB w1 := Below.put hb hM1.kp (fun _ e => e.elim)
  have hs1 : SlI w1 (.slice (some ⟨r1, 0, none⟩) 1 1) [-1] := own_sl (z := (0 : Int)) (xs := [-1]) (own_one hM1)
  have hJ1 := hJ _ _ _ _ h0 hM1.kp (fun _ e => e.elim)
  have hz1 := hM1.size
  (repeat (first | refine z_p (kk := ?_) | refine z_l (kk := ?_) | refine z_f (kk := ?_) | refine z_D (kk := ?_)))
  refine Ops.call rfl rfl rfl rfl rfl (repeat_c (n := l.length) hs1 hn1 hn60) (fun r w2 hR => ?_)
  have hO2 : OI 3 (Value.int .i64) wB w2 r (List.replicate l.length (-1)) := hR.up hb1
  have hge2 : ∀ k, r.ownBlock = some k → w.heap.size ≤ k := fun k hk => by have := hR.ge k hk; omega
  have hJ2 := hJ _ _ _ (fun _ => False) hJ1 (Kp.of_below hR.bel) (fun _ e => e.elim)
  have hb2 := hO2.bel
  have hz2 := hR.bel.size
  clear hR hs1
  have hl2 : (List.replicate l.length (-1 : Int)).length = l.length := by simp
  obtain ⟨Ar, cr, rfl⟩ := hO2.sh
  rw [hl2] at *
  (repeat (first | with_reducible refine W.seq ?_ | with_reducible refine Ops.nil ?_ | with_reducible refine W.region ?_ | refine z_p (kk := ?_)))
  refine Ops.mkM rfl rfl rfl (fun w3 mb hm3 k3 hmb => ?_)
  have hO3 := hO2.kp k3 (fun _ e => e.elim)
  have hJ3 := hJ _ _ _ _ hJ2 k3 (fun _ e => e.elim)
  have hz3 := k3.size
  have hne : (Value.slice Ar l.length cr).ownBlock ≠ some mb := fun e => by have := (hO2.own.lt mb e).2; omega
  refine Ops.ins rfl rfl rfl rfl rfl rfl rfl rfl hm3 (fun w4 hm4 k4 hz4 => ?_)
  have hO4 := hO3.kp k4 (fun i hi => ⟨by have := hO2.bel.size; omega, fun e => hne (by rw [e, hi])⟩)
  have hJ4 := hJ _ _ _ _ hJ3 k4 (fun i hi => by omega)
  have hm4' : MapB w4 mb (fun k => k == 0) := by simpa using hm4
  have hP4 := PI.start l dep ch
  have hmbw : w.heap.size ≤ mb := by omega
  have hb4 := hO4.bel
  (repeat (first | with_reducible refine W.seq ?_ | with_reducible refine Ops.nil ?_ | with_reducible refine W.region ?_ | refine z_p (kk := ?_) | with_reducible refine W.block ?_ | refine z_l (kk := ?_) | refine z_f (kk := ?_) | refine z_D (kk := ?_)))
  refine W.loop (fun m ρ w5 => ∃ (i : Nat) (f : Int → Bool) (out : List Int), m = l.length - i ∧ i ≤ l.length ∧ ρ = [(0, .pointer (some ⟨g, 0, none⟩)), (1, .func (.func fi) first.toArray cap.toArray), (5, .slice Ar l.length cr), (6, .map (some mb)), (23, .slice At l.length ct), (24, .int .i64 l.length), (25, .int .i64 i)] ∧ OI 3 (Value.int .i64) wB w5 (.slice Ar l.length cr) out ∧ MapB w5 mb f ∧ PI l dep ch i f out ∧ J (asked l dep f i) w5)
    ⟨_, _, ⟨0, _, _, rfl, Nat.zero_le _, rfl, hO4, hm4', hP4, hJ4⟩, (by repeat (first | exact trivial | refine And.intro rfl ?_))⟩ ?_
  clear hO4 hm4 hm4' hP4 hJ4 hO3 hJ3 hO2 hJ2 hm3 hJ1
  rintro m ρ w5 ⟨i, f, out, rfl, hi, rfl, hO, hM, hP, hJt⟩
  have hb5 := hO.bel
  have hol := hP.len
  (repeat (first | with_reducible refine W.seq ?_ | with_reducible refine Ops.nil ?_ | with_reducible refine W.region ?_ | refine z_p (kk := ?_)))
  (first | refine W.condD rfl (fun hc => ?_) (fun hc => ?_) | refine W.condE rfl (fun hc => ?_) (fun hc => ?_) | refine W.condN rfl (fun hc => ?_) (fun hc => ?_) | refine W.cond rfl (fun hc => ?_) (fun hc => ?_))
  · have hil : i < l.length := by omega
    (repeat (first | with_reducible refine W.seq ?_ | with_reducible refine W.region ?_ | refine z_p (kk := ?_) | with_reducible refine W.skip ?_ | with_reducible refine W.block ?_))
    refine Ops.rdNB rfl rfl rfl rfl rfl rfl (fun _ => rfl) rfl rfl rfl rfl rfl rfl rfl hTr hb5 (by omega) (by omega) (fun Ak ck _ hks => ?_)
    refine Ops.alloc rfl rfl rfl rfl (fun w6 b8 hM6 => ?_)
    (repeat (first | refine z_p (kk := ?_)))
    refine Ops.st2 rfl rfl rfl rfl rfl rfl rfl rfl hM6.at_ (fun w7 hu7 => ?_)
    have k7 := hM6.kp.trans hu7.kp
    have e6 := hM6.r_eq
    have hB8 := hu7.blk
    have hO7 := hO.kp k7 (fun j hj => by rcases hj with hj | hj; exact hj.elim; exact ⟨by have := hO.bel.size; omega, fun e => by have := (hO.own.lt j e).2; omega⟩)
    have hM7 := hM.kp k7 (fun hj => by rcases hj with hj | hj; exact hj.elim; have := hM.lt; omega)
    have hJ7 := hJ _ _ _ _ hJt k7 (fun j hj => by rcases hj with hj | hj; exact hj.elim; have := hM.lt; omega)
    have hb7 := hO7.bel
    have hG7 := hG.below hb7
    clear hM hO hJt
    (repeat (first | with_reducible refine W.seq ?_ | with_reducible refine Ops.nil ?_ | with_reducible refine W.region ?_ | refine z_p (kk := ?_) | with_reducible refine W.block ?_))
    refine Ops.look rfl rfl rfl rfl rfl rfl rfl rfl hM7 ?_
    cases hfi : f i with
    | false =>
      have hP' := hP.skip hT hil (.inl hfi)
      have hJ' : J (asked l dep f (i + 1)) w7 := by rw [asked_succ, hfi]; simpa using hJ7
      (repeat (first | with_reducible refine Ops.nil ?_ | refine z_p (kk := ?_) | refine z_n (kk := ?_)))
      refine W.condT rfl (by first | rfl | assumption | (simp only [bnf] <;> omega) | (simp only [*, bnf]; done) | fail) ?_
      (repeat (first | with_reducible refine Ops.nil ?_ | with_reducible refine W.region ?_ | refine z_p (kk := ?_) | refine z_a (kk := ?_) | with_reducible refine W.skip ?_ | with_reducible refine W.endb ?_))
      exact W.endl ⟨_, _, ⟨⟨i + 1, f, out, rfl, by omega, rfl, hO7, hM7, hP', hJ'⟩, by omega⟩, (by repeat (first | exact trivial | refine And.intro rfl ?_))⟩
    | true =>
      (repeat (first | refine z_p (kk := ?_) | refine z_y (kk := ?_)))
      refine Ops.callS rfl rfl rfl rfl rfl (isLeaf_c hG7 i (by omega) (by omega)) ?_
      cases hlf : leafB l i with
      | true =>
        have hP' := hP.skip hT hil (.inr hlf)
        have hJ' : J (asked l dep f (i + 1)) w7 := by rw [asked_succ, hlf]; simpa using hJ7
        (repeat (first | with_reducible refine Ops.nil ?_ | refine z_p (kk := ?_)))
        refine W.condT rfl (by first | rfl | assumption | (simp only [bnf] <;> omega) | (simp only [*, bnf]; done) | fail) ?_
        (repeat (first | with_reducible refine Ops.nil ?_ | with_reducible refine W.region ?_ | refine z_p (kk := ?_) | refine z_a (kk := ?_) | with_reducible refine W.skip ?_ | with_reducible refine W.endb ?_))
        exact W.endl ⟨_, _, ⟨⟨i + 1, f, out, rfl, by omega, rfl, hO7, hM7, hP', hJ'⟩, by omega⟩, (by repeat (first | exact trivial | refine And.intro rfl ?_))⟩
      | false =>
        (repeat (first | with_reducible refine Ops.nil ?_ | refine z_p (kk := ?_)))
        refine W.condF rfl (by first | rfl | assumption | (simp only [bnf] <;> omega) | (simp only [*, bnf]; done) | fail) ?_
        (repeat (first | with_reducible refine W.seq ?_ | with_reducible refine W.region ?_ | refine z_p (kk := ?_)))
        refine Ops.callS rfl rfl rfl rfl rfl (atMax_c hG7 i (by omega) (by omega)) ?_
        cases hev : evB dep i with
        | true =>
          have hmem := hch i hil hlf
          have hP' := hP.max hT hil hfi hlf hev hmem
          have hckd := Go.Proofs.Ytdiljpnfochndaa.HP.mem_kid hT hil hmem
          (repeat (first | with_reducible refine Ops.nil ?_ | refine z_p (kk := ?_)))
          refine W.condT rfl (by first | rfl | assumption | (simp only [bnf] <;> omega) | (simp only [*, bnf]; done) | fail) ?_
          (repeat (first | with_reducible refine W.seq ?_ | with_reducible refine W.region ?_ | refine z_p (kk := ?_)))
          refine Ops.call rfl rfl rfl rfl hfm (hcall _ i w7 hil hlf hev hb7 hJ7) (fun r w8 hR => ?_)
          obtain ⟨rfl, hb8, hJ8, k8⟩ := hR
          have hO8 := hO7.kp k8 (fun j hj => ⟨(hS j hj).1, fun e => by have := hge2 j e; have := (hS j hj).2; omega⟩)
          have hM8 := hM7.kp k8 (fun hj => by have := (hS mb hj).2; omega)
          refine Ops.wrO (enc := Value.int .i64) rfl rfl rfl rfl rfl rfl rfl rfl rfl rfl rfl rfl (by simp) rfl hO8 (by omega) (fun w9 _ hO9 k9 _ => ?_)
          have hM9 := hM8.kp k9 (fun e => hne e)
          have hJ9 := hJ _ _ _ _ hJ8 k9 (fun j hj => hge2 j hj)
          have hb9 := hO9.bel
          (repeat (first | with_reducible refine Ops.nil ?_ | with_reducible refine W.region ?_ | refine z_p (kk := ?_)))
          have hout : (out.set i (ch i)).getD i 0 = ch i := Go.Proofs.Ytdiljpnfochndaa.HP.getD_set_eq (by omega)
          refine Ops.rdBn (enc := Value.int .i64) (z := (0 : Int)) rfl rfl rfl rfl rfl rfl (fun _ => rfl) rfl rfl rfl rfl rfl rfl hO9.sl (Below.refl _ _) (by simp; omega) (fun _ => ?_)
          rw [hout]
          refine Ops.put rfl rfl rfl rfl rfl rfl rfl rfl hM9 (fun w10 hM10 k10 _ => ?_)
          have hO10 := hO9.kp k10 (fun j hj => ⟨by have := hb.size; omega, fun e => hne (by rw [e, hj])⟩)
          have hJ10 := hJ _ _ _ _ hJ9 k10 (fun j hj => by omega)
          have hJ' : J (asked l dep (fun k => f k || k == ch i) (i + 1)) w10 := by
            rw [asked_congr (g := f) (fun j hj => by show (f j || (j : Int) == ch i) = f j; rw [show ((j : Int) == ch i) = false by simp; omega, Bool.or_false]), asked_succ, hfi, hev, hlf]
            exact hJ10
          (repeat (first | with_reducible refine Ops.nil ?_ | with_reducible refine W.region ?_ | refine z_p (kk := ?_) | refine z_a (kk := ?_) | with_reducible refine W.endb ?_))
          exact W.endl ⟨_, _, ⟨⟨i + 1, _, _, rfl, by omega, rfl, hO10, hM10, hP', hJ'⟩, by omega⟩, (by repeat (first | exact trivial | refine And.intro rfl ?_))⟩
        | false =>
          have hkl := hT.klen i hil
          (repeat (first | with_reducible refine Ops.nil ?_ | refine z_p (kk := ?_)))
          refine W.condF rfl (by first | rfl | assumption | (simp only [bnf] <;> omega) | (simp only [*, bnf]; done) | fail) ?_
          (repeat (first | with_reducible refine W.seq ?_ | with_reducible refine Ops.nil ?_ | with_reducible refine W.region ?_ | refine z_p (kk := ?_) | with_reducible refine W.block ?_ | refine z_l (kk := ?_) | refine z_f (kk := ?_) | refine z_d (kk := ?_)))
          refine W.loop (fun m ρ w8 => ∃ (j : Nat) (h : Int → Bool), m = (kid l i).length - j ∧ j ≤ (kid l i).length ∧ ρ = [(0, .pointer (some ⟨g, 0, none⟩)), (1, .func (.func fi) first.toArray cap.toArray), (5, .slice Ar l.length cr), (6, .map (some mb)), (23, .slice At l.length ct), (24, .int .i64 l.length), (25, .int .i64 i), (31, .slice Ak (kid l i).length ck), (32, .int .i64 (kid l i).length), (33, .int .i64 j)] ∧ OI 3 (Value.int .i64) wB w8 (.slice Ar l.length cr) out ∧ MapB w8 mb h ∧ (∀ k, h k = (f k || decide (∃ b : Nat, b < j ∧ k_ l i b = k))) ∧ J (asked l dep f i) w8)
            ⟨_, _, ⟨0, f, rfl, Nat.zero_le _, rfl, hO7, hM7, fun k => by rw [decide_eq_false (fun ⟨b, hb, _⟩ => by omega), Bool.or_false], hJ7⟩, (by repeat (first | exact trivial | refine And.intro rfl ?_))⟩ ?_
          clear hM7 hJ7 hO7
          rintro m ρ w8 ⟨j, h, rfl, hj, rfl, hO, hM, hh, hJt⟩
          have hb8 := hO.bel
          (repeat (first | with_reducible refine W.seq ?_ | with_reducible refine Ops.nil ?_ | with_reducible refine W.region ?_ | refine z_p (kk := ?_)))
          (first | refine W.condD rfl (fun hc => ?_) (fun hc => ?_) | refine W.condE rfl (fun hc => ?_) (fun hc => ?_) | refine W.condN rfl (fun hc => ?_) (fun hc => ?_) | refine W.cond rfl (fun hc => ?_) (fun hc => ?_))
          · have hjl : j < (kid l i).length := by omega
            (repeat (first | with_reducible refine W.seq ?_ | with_reducible refine Ops.nil ?_ | with_reducible refine W.region ?_ | refine z_p (kk := ?_) | with_reducible refine W.skip ?_ | with_reducible refine W.block ?_ | refine z_I (kk := fun _ => ?_)))
            refine Ops.put rfl rfl rfl rfl rfl rfl rfl rfl hM (fun w9 hM9 k9 _ => ?_)
            have hO9 := hO.kp k9 (fun q hq => ⟨by have := hb.size; omega, fun e => hne (by rw [e, hq])⟩)
            have hJ9 := hJ _ _ _ _ hJt k9 (fun q hq => by omega)
            have hh9 : ∀ k, (h k || k == (kid l i).getD j 0) = (f k || decide (∃ b : Nat, b < j + 1 ∧ k_ l i b = k)) := fun k => by
              rw [hh k, Bool.or_assoc]
              congr 1
              rw [show (k == (kid l i).getD j 0) = decide (k = (kid l i).getD j 0) from rfl, ← Bool.decide_or, decide_eq_decide]
              constructor
              · rintro (⟨b, hb, e⟩ | e)
                · exact ⟨b, by omega, e⟩
                · exact ⟨j, by omega, e.symm⟩
              · rintro ⟨b, hb, e⟩
                by_cases hbj : b = j
                · subst hbj; exact .inr e.symm
                · exact .inl ⟨b, by omega, e⟩
            (repeat (first | with_reducible refine Ops.nil ?_ | with_reducible refine W.region ?_ | refine z_p (kk := ?_) | refine z_a (kk := ?_) | with_reducible refine W.endb ?_))
            exact W.endl ⟨_, _, ⟨⟨j + 1, _, rfl, by omega, rfl, hO9, hM9, hh9, hJ9⟩, by omega⟩, (by repeat (first | exact trivial | refine And.intro rfl ?_))⟩
          · have hjl : j = (kid l i).length := by omega
            subst hjl
            have hP' := hP.min hT hil hfi hev hh
            have hJ' : J (asked l dep h (i + 1)) w8 := by
              rw [asked_congr (g := f) (fun j hj => by rw [hh j, decide_eq_false (fun ⟨b, hb, e⟩ => by have := hT.kin i b hil hb; omega), Bool.or_false]), asked_succ, hev]
              simpa using hJt
            (repeat (first | with_reducible refine Ops.nil ?_ | with_reducible refine W.region ?_ | refine z_p (kk := ?_) | refine z_a (kk := ?_) | with_reducible refine W.endb ?_ | refine W.exit rfl ?_))
            exact W.endl ⟨_, _, ⟨⟨i + 1, h, out, rfl, by omega, rfl, hO, hM, hP', hJ'⟩, by omega⟩, (by repeat (first | exact trivial | refine And.intro rfl ?_))⟩
  · have hil : i = l.length := by omega
    subst hil
    (repeat (first | with_reducible refine W.seq ?_ | with_reducible refine Ops.nil ?_ | with_reducible refine W.region ?_ | refine z_p (kk := ?_) | refine W.exit rfl ?_))
    exact W.fret rfl ⟨f, out, hP, hO, hJt⟩
end Go.Proofs.Ytdiljpnfochndaa
