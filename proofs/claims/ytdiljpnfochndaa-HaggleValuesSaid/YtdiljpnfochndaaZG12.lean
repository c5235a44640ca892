/- A part of the walk: what this seat's statements share. -/
import Derived.Test.YtdiljpnfochndaaZG11
set_option linter.unusedVariables false
set_option linter.unusedSimpArgs false
set_option linter.unusedSectionVars false
namespace Go.Proofs.Ytdiljpnfochndaa
open Go Go.RowKit Go.Proofs.Ytdiljpnfochndaa.VW
open Go.Proofs.Ytdiljpnfochndaa.HP (Nd kid wor leafB rd evB gameOf gameOf_TF ValP NV far TF Dn k_ RNeedP RN farR TK Ef NeedP GoodE)
attribute [local irreducible] W Ops OrdA VW.Ord OrdX
abbrev srt (xs : List Int) : List Int := xs.mergeSort fun x y => decide (x ≤ y)
theorem srt_mem {xs : List Int} {x : Int} : x ∈ srt xs ↔ x ∈ xs := List.mem_mergeSort
theorem srt_up {xs : List Int} (h : xs.Nodup) : (srt xs).Pairwise (· < ·) := by
  have h1 : (srt xs).Pairwise fun x y => decide (x ≤ y) = true := List.pairwise_mergeSort (fun a b c h1 h2 => by simp at h1 h2 ⊢; omega) (fun a b => by simp; omega) xs
  have h2 : (srt xs).Nodup := (List.mergeSort_perm xs _).nodup_iff.2 h
  exact (h1.and h2).imp fun ⟨h3, h4⟩ => by
    have h5 := of_decide_eq_true h3
    have h6 : _ ≠ _ := h4
    omega
theorem srt_listed {l : List Nd} {xs : List Int} (h : GoodE l 0 xs) : Listed l (srt xs) := up_listed (srt_up h.nd) fun x hx => by
  obtain ⟨h1, h2, h3, _⟩ := h.mem x (srt_mem.1 hx)
  exact ⟨h1, h2, h3⟩
theorem proofF_3 {l : List Nd} {b : Int} (i : Nat) : proofF l b i = 1 ∨ proofF l b i = far := by
  unfold proofF costV
  split
  · exact .inl rfl
  · exact .inr rfl
theorem refuteF_3 {l : List Nd} {b : Int} (i : Nat) : refuteF l b i = 1 ∨ refuteF l b i = far := by
  unfold refuteF costV
  split
  · exact .inl rfl
  · exact .inr rfl
theorem proofF_lt {l : List Nd} {b : Int} (i : Nat) : proofF l b i < far ↔ b ≤ wor l i := by
  unfold proofF costV
  by_cases h : b ≤ wor l i <;> simp [h, far]
theorem refuteF_lt {l : List Nd} {b : Int} (i : Nat) : refuteF l b i < far ↔ wor l i ≤ b := by
  unfold refuteF costV
  by_cases h : wor l i ≤ b <;> simp [h, far]
/-- What a proof is worth. -/
theorem proof_facts {l : List Nd} {dep vs : List Int} {b : Int} {es : List Ef} (hT : TF l dep) (hE : NeedP l dep true (proofF l b) es) (hv : ValP l dep (wor l) vs) :
    ((es.getD 0 (0, [])).1 < far ↔ b ≤ vs.getD 0 0) ∧ ((es.getD 0 (0, [])).1 < far → (es.getD 0 (0, [])).1 = (es.getD 0 (0, [])).2.length ∧
      (∀ (wf : Int → Int) (us : List Int), ValP l dep wf us → (∀ i : Nat, i < l.length → leafB l i = true → (i : Int) ∈ (es.getD 0 (0, [])).2 → wf i = wor l i) → b ≤ us.getD 0 0) ∧
      ∀ rs, RNeedP l dep true (aloneP l b) rs → rs.getD 0 0 = (es.getD 0 (0, [])).2.length) := by
  have h1 := hT.n1
  have h3 : ∀ i : Nat, leafB l i = true → proofF l b i = 0 ∨ proofF l b i = 1 ∨ proofF l b i = far := fun i _ => .inr (proofF_3 i)
  have hge : ∀ (wf : Int → Int) (us : List Int), ValP l dep wf us → (∀ i : Nat, i < l.length → leafB l i = true → (i : Int) ∈ (es.getD 0 (0, [])).2 → wf i = wor l i) → (es.getD 0 (0, [])).1 < far → b ≤ us.getD 0 0 := fun wf us hu hw hlt =>
    Go.Proofs.Ytdiljpnfochndaa.HP.proof_ge (S := (es.getD 0 (0, [])).2) hT hE hu h3 (fun i hi hl hlf hS => by rw [hw i hi hl hS]; exact (proofF_lt i).1 hlf) 0 (by omega) hlt (fun x hx => hx)
  refine ⟨⟨fun h => hge (wor l) vs hv (fun _ _ _ _ => rfl) h, fun h => Go.Proofs.Ytdiljpnfochndaa.HP.proof_far hT hE hv h3 (fun i _ _ hw => (proofF_lt i).2 hw) 0 (by omega) h⟩, fun hlt => ?_⟩
  have hlen := Go.Proofs.Ytdiljpnfochndaa.HP.need_len hT hE (fun i _ => proofF_3 i) 0 (by omega) hlt
  refine ⟨hlen, fun wf us hu hw => hge wf us hu hw hlt, fun rs hR => ?_⟩
  rw [← hlen]
  exact (Go.Proofs.Ytdiljpnfochndaa.HP.ref_need hT hE hR h3 (fun i hi hl => by
    unfold aloneP
    rcases proofF_3 (l := l) (b := b) i with e | e
    · have := (proofF_lt (l := l) (b := b) i).1 (by rw [e]; decide)
      rw [e, if_neg (by omega)]; simp [far]
    · have : ¬ b ≤ wor l i := fun h => by have := (proofF_lt (l := l) (b := b) i).2 h; rw [e] at this; omega
      rw [e, if_pos (by omega)]; simp [far]) 0 (by omega)).1 hlt
theorem refute_facts {l : List Nd} {dep vs : List Int} {b : Int} {es : List Ef} (hT : TF l dep) (hE : NeedP l dep false (refuteF l b) es) (hv : ValP l dep (wor l) vs) :
    ((es.getD 0 (0, [])).1 < far ↔ vs.getD 0 0 ≤ b) ∧ ((es.getD 0 (0, [])).1 < far → (es.getD 0 (0, [])).1 = (es.getD 0 (0, [])).2.length ∧
      (∀ (wf : Int → Int) (us : List Int), ValP l dep wf us → (∀ i : Nat, i < l.length → leafB l i = true → (i : Int) ∈ (es.getD 0 (0, [])).2 → wf i = wor l i) → us.getD 0 0 ≤ b) ∧
      ∀ rs, RNeedP l dep false (aloneR l b) rs → rs.getD 0 0 = (es.getD 0 (0, [])).2.length) := by
  have h1 := hT.n1
  have h3 : ∀ i : Nat, leafB l i = true → refuteF l b i = 0 ∨ refuteF l b i = 1 ∨ refuteF l b i = far := fun i _ => .inr (refuteF_3 i)
  have hge : ∀ (wf : Int → Int) (us : List Int), ValP l dep wf us → (∀ i : Nat, i < l.length → leafB l i = true → (i : Int) ∈ (es.getD 0 (0, [])).2 → wf i = wor l i) → (es.getD 0 (0, [])).1 < far → us.getD 0 0 ≤ b := fun wf us hu hw hlt =>
    Go.Proofs.Ytdiljpnfochndaa.HP.refute_le (S := (es.getD 0 (0, [])).2) hT hE hu h3 (fun i hi hl hlf hS => by rw [hw i hi hl hS]; exact (refuteF_lt i).1 hlf) 0 (by omega) hlt (fun x hx => hx)
  refine ⟨⟨fun h => hge (wor l) vs hv (fun _ _ _ _ => rfl) h, fun h => Go.Proofs.Ytdiljpnfochndaa.HP.refute_far hT hE hv h3 (fun i _ _ hw => (refuteF_lt i).2 hw) 0 (by omega) h⟩, fun hlt => ?_⟩
  have hlen := Go.Proofs.Ytdiljpnfochndaa.HP.need_len hT hE (fun i _ => refuteF_3 i) 0 (by omega) hlt
  refine ⟨hlen, fun wf us hu hw => hge wf us hu hw hlt, fun rs hR => ?_⟩
  rw [← hlen]
  exact (Go.Proofs.Ytdiljpnfochndaa.HP.ref_need hT hE hR h3 (fun i hi hl => by
    unfold aloneR
    rcases refuteF_3 (l := l) (b := b) i with e | e
    · have := (refuteF_lt (l := l) (b := b) i).1 (by rw [e]; decide)
      rw [e, if_neg (by omega)]; simp [far]
    · have : ¬ wor l i ≤ b := fun h => by have := (refuteF_lt (l := l) (b := b) i).2 h; rw [e] at this; omega
      rw [e, if_pos (by omega)]; simp [far]) 0 (by omega)).1 hlt
theorem restF_in {l : List Nd} {xs : List Int} {rest : Int} {i : Nat} (h : (i : Int) ∈ xs) : restF l (srt xs) rest i = wor l i := by
  unfold restF
  rw [if_pos (by simpa using srt_mem.2 h)]
set_option maxHeartbeats 4000000 in
theorem proofsLaw_c {w : World} {mv : Value} {l : List Nd} {b : Int} (hm : ArgT w mv l) :
    Calls Try.prog 3 #[mv, .int .i64 b] w (Ret fun r w' => r = .bool true ∧ Below w.heap.size w w') := by
  refine calls_W (vs := [_, _]) Try.func3 rfl (by kernel_rfl) rfl ?_
  (repeat (first | with_reducible refine W.seq ?_ | with_reducible refine Ops.nil ?_ | with_reducible refine W.region ?_ | refine z_p (kk := ?_) | refine z_a (kk := ?_) | refine z_y (kk := ?_) | refine z_n (kk := ?_) | refine z_u (kk := ?_) | with_reducible refine W.skip ?_ | with_reducible refine W.endb ?_ | with_reducible refine W.block ?_ | refine W.exit rfl ?_ | refine z_l (kk := ?_) | refine z_f (kk := ?_) | refine z_M (kk := ?_) | refine z_m (kk := ?_) | refine z_e (kk := ?_) | refine z_E (kk := ?_) | refine z_d (kk := ?_) | refine z_I (kk := fun _ => ?_) | refine z_J (kk := fun _ => ?_) | refine z_K (kk := fun _ => ?_) | refine z_L (kk := fun _ => ?_) | refine z_T (kk := ?_) | refine z_F (kk := ?_) | refine z_k (kk := fun _ _ _ _ _ => ?_) | refine z_w (kk := fun _ _ => ?_) | refine z_s (kk := fun _ _ _ _ => ?_) | refine z_g (kk := ?_) | refine z_h (kk := ?_)))
  refine Ops.call rfl rfl rfl rfl rfl (tree_c hm) (fun tv w1 hR => ?_)
  obtain ⟨hb1, hT1⟩ := hR
  have hlen := treeM_len l
  have hkl : ∀ i : Nat, i < (treeM l).length → (kid (treeM l) i).length ≤ 1000 := fun i _ => by have := treeM_kid l i; omega
  generalize treeM l = t at *
  obtain ⟨At, ct, rfl⟩ := hT1.sl
  clear hm
  (repeat (first | with_reducible refine W.seq ?_ | with_reducible refine Ops.nil ?_ | with_reducible refine W.region ?_ | refine z_p (kk := ?_) | refine z_a (kk := ?_) | refine z_y (kk := ?_) | refine z_n (kk := ?_) | refine z_u (kk := ?_) | with_reducible refine W.skip ?_ | with_reducible refine W.endb ?_ | with_reducible refine W.block ?_ | refine W.exit rfl ?_ | refine z_l (kk := ?_) | refine z_f (kk := ?_) | refine z_M (kk := ?_) | refine z_m (kk := ?_) | refine z_e (kk := ?_) | refine z_E (kk := ?_) | refine z_d (kk := ?_) | refine z_I (kk := fun _ => ?_) | refine z_J (kk := fun _ => ?_) | refine z_K (kk := fun _ => ?_) | refine z_L (kk := fun _ => ?_) | refine z_T (kk := ?_) | refine z_F (kk := ?_) | refine z_k (kk := fun _ _ _ _ _ => ?_) | refine z_w (kk := fun _ _ => ?_) | refine z_s (kk := fun _ _ _ _ => ?_) | refine z_g (kk := ?_) | refine z_h (kk := ?_)))
  refine Ops.call rfl rfl rfl rfl rfl (proof_c (b := b) hT1 (by omega)) (fun r w2 hR => ?_)
  obtain ⟨hb2, hP⟩ := hR
  have hb02 := Below.via hb1 hb2
  have hT2 := hT1.below hb2
  by_cases hgood : ∃ dep, gameOf t = some dep ∧ -1000 ≤ b ∧ b ≤ 1000
  · obtain ⟨dep, hg, hbd⟩ := hgood
    have hTF := gameOf_TF hg
    have hn60 := hTF.n60
    have hn1 := hTF.n1
    unfold ProvedR at hP
    rw [if_pos hbd, hg] at hP
    obtain ⟨es, hE, hGE, hP⟩ := hP
    obtain ⟨pv, pe, ps, rfl, hps, hpe, hpcase⟩ : ∃ pv pe ps, r = .tuple #[pv, .int .i64 pe] ∧ SlI w2 pv ps ∧ (pe = 0 ∨ pe = 6) ∧ ((pe = 6 ∧ ps = [] ∧ ¬ (es.getD 0 (0, [])).1 < far) ∨ (pe = 0 ∧ ps = srt (es.getD 0 (0, [])).2 ∧ (es.getD 0 (0, [])).1 < far)) := by
      rcases hP with ⟨h1, rfl⟩ | ⟨h1, v, rfl, h2⟩
      · exact ⟨_, _, [], rfl, Sl.nil _ _ _ _ _, .inr rfl, .inl ⟨rfl, rfl, by omega⟩⟩
      · exact ⟨_, _, _, rfl, h2.sl, .inl rfl, .inr ⟨rfl, rfl, h1⟩⟩
    clear hP
    obtain ⟨Ap, cp, rfl⟩ := Sl.sl hps
    (repeat (first | with_reducible refine W.seq ?_ | with_reducible refine Ops.nil ?_ | with_reducible refine W.region ?_ | refine z_p (kk := ?_) | refine z_a (kk := ?_) | refine z_y (kk := ?_) | refine z_n (kk := ?_) | refine z_u (kk := ?_) | with_reducible refine W.skip ?_ | with_reducible refine W.endb ?_ | with_reducible refine W.block ?_ | refine W.exit rfl ?_ | refine z_l (kk := ?_) | refine z_f (kk := ?_) | refine z_M (kk := ?_) | refine z_m (kk := ?_) | refine z_e (kk := ?_) | refine z_E (kk := ?_) | refine z_d (kk := ?_) | refine z_I (kk := fun _ => ?_) | refine z_J (kk := fun _ => ?_) | refine z_K (kk := fun _ => ?_) | refine z_L (kk := fun _ => ?_) | refine z_T (kk := ?_) | refine z_F (kk := ?_) | refine z_k (kk := fun _ _ _ _ _ => ?_) | refine z_w (kk := fun _ _ => ?_) | refine z_s (kk := fun _ _ _ _ => ?_) | refine z_g (kk := ?_) | refine z_h (kk := ?_)))
    refine Ops.call rfl rfl rfl rfl rfl (refute_c (b := b) hT2 (by omega)) (fun r w3 hR => ?_)
    obtain ⟨hb3, hQ⟩ := hR
    have hb03 := Below.via hb02 hb3
    have hT3 := hT2.below hb3
    have hps3 := Sl.below hps hb3
    unfold ProvedR at hQ
    rw [if_pos hbd, hg] at hQ
    obtain ⟨fs, hF, hGF, hQ⟩ := hQ
    obtain ⟨qv, qe, qs, rfl, hqs, hqcase⟩ : ∃ qv qe qs, r = .tuple #[qv, .int .i64 qe] ∧ SlI w3 qv qs ∧ ((qe = 6 ∧ qs = [] ∧ ¬ (fs.getD 0 (0, [])).1 < far) ∨ (qe = 0 ∧ qs = srt (fs.getD 0 (0, [])).2 ∧ (fs.getD 0 (0, [])).1 < far)) := by
      rcases hQ with ⟨h1, rfl⟩ | ⟨h1, v, rfl, h2⟩
      · exact ⟨_, _, [], rfl, Sl.nil _ _ _ _ _, .inl ⟨rfl, rfl, by omega⟩⟩
      · exact ⟨_, _, _, rfl, h2.sl, .inr ⟨rfl, rfl, h1⟩⟩
    clear hQ
    obtain ⟨Aq, cq, rfl⟩ := Sl.sl hqs
    (repeat (first | with_reducible refine W.seq ?_ | with_reducible refine Ops.nil ?_ | with_reducible refine W.region ?_ | refine z_p (kk := ?_) | refine z_a (kk := ?_) | refine z_y (kk := ?_) | refine z_n (kk := ?_) | refine z_u (kk := ?_) | with_reducible refine W.skip ?_ | with_reducible refine W.endb ?_ | with_reducible refine W.block ?_ | refine W.exit rfl ?_ | refine z_l (kk := ?_) | refine z_f (kk := ?_) | refine z_M (kk := ?_) | refine z_m (kk := ?_) | refine z_e (kk := ?_) | refine z_E (kk := ?_) | refine z_d (kk := ?_) | refine z_I (kk := fun _ => ?_) | refine z_J (kk := fun _ => ?_) | refine z_K (kk := fun _ => ?_) | refine z_L (kk := fun _ => ?_) | refine z_T (kk := ?_) | refine z_F (kk := ?_) | refine z_k (kk := fun _ _ _ _ _ => ?_) | refine z_w (kk := fun _ _ => ?_) | refine z_s (kk := fun _ _ _ _ => ?_) | refine z_g (kk := ?_) | refine z_h (kk := ?_)))
    refine Ops.call rfl rfl rfl rfl rfl (refTree_c hT3 hkl) (fun r w4 hR => ?_)
    obtain ⟨rfl, hb4⟩ := hR
    have hb04 := Below.via hb03 hb4
    have hT4 := hT3.below hb4
    have hps4 := Sl.below hps3 hb4
    have hqs4 := Sl.below hqs hb4
    rw [hg]
    (repeat (first | with_reducible refine W.seq ?_ | with_reducible refine Ops.nil ?_ | with_reducible refine W.region ?_ | refine z_p (kk := ?_) | refine z_a (kk := ?_) | refine z_y (kk := ?_) | refine z_n (kk := ?_) | refine z_u (kk := ?_) | with_reducible refine W.skip ?_ | with_reducible refine W.endb ?_ | with_reducible refine W.block ?_ | refine W.exit rfl ?_ | refine z_l (kk := ?_) | refine z_f (kk := ?_) | refine z_M (kk := ?_) | refine z_m (kk := ?_) | refine z_e (kk := ?_) | refine z_E (kk := ?_) | refine z_d (kk := ?_) | refine z_I (kk := fun _ => ?_) | refine z_J (kk := fun _ => ?_) | refine z_K (kk := fun _ => ?_) | refine z_L (kk := fun _ => ?_) | refine z_T (kk := ?_) | refine z_F (kk := ?_) | refine z_k (kk := fun _ _ _ _ _ => ?_) | refine z_w (kk := fun _ _ => ?_) | refine z_s (kk := fun _ _ _ _ => ?_) | refine z_g (kk := ?_) | refine z_h (kk := ?_)))
    refine Ops.callS rfl rfl rfl rfl rfl (bound_c _ _) ?_
    rw [decide_eq_true hbd]
    (repeat (first | with_reducible refine W.seq ?_ | with_reducible refine Ops.nil ?_ | with_reducible refine W.region ?_ | refine z_p (kk := ?_) | refine z_a (kk := ?_) | refine z_y (kk := ?_) | refine z_n (kk := ?_) | refine z_u (kk := ?_) | with_reducible refine W.skip ?_ | with_reducible refine W.endb ?_ | with_reducible refine W.block ?_ | refine W.exit rfl ?_ | refine z_l (kk := ?_) | refine z_f (kk := ?_) | refine z_M (kk := ?_) | refine z_m (kk := ?_) | refine z_e (kk := ?_) | refine z_E (kk := ?_) | refine z_d (kk := ?_) | refine z_I (kk := fun _ => ?_) | refine z_J (kk := fun _ => ?_) | refine z_K (kk := fun _ => ?_) | refine z_L (kk := fun _ => ?_) | refine z_T (kk := ?_) | refine z_F (kk := ?_) | refine z_k (kk := fun _ _ _ _ _ => ?_) | refine z_w (kk := fun _ _ => ?_) | refine z_s (kk := fun _ _ _ _ => ?_) | refine z_g (kk := ?_) | refine z_h (kk := ?_)))
    refine W.condF rfl (by first | rfl | assumption | (simp only [bnf] <;> omega) | (simp only [*, bnf]; done) | fail) ?_
    (repeat (first | with_reducible refine W.seq ?_ | with_reducible refine Ops.nil ?_ | with_reducible refine W.region ?_ | refine z_p (kk := ?_) | refine z_a (kk := ?_) | refine z_y (kk := ?_) | refine z_n (kk := ?_) | refine z_u (kk := ?_) | with_reducible refine W.skip ?_ | with_reducible refine W.endb ?_ | with_reducible refine W.block ?_ | refine W.exit rfl ?_ | refine z_l (kk := ?_) | refine z_f (kk := ?_) | refine z_M (kk := ?_) | refine z_m (kk := ?_) | refine z_e (kk := ?_) | refine z_E (kk := ?_) | refine z_d (kk := ?_) | refine z_I (kk := fun _ => ?_) | refine z_J (kk := fun _ => ?_) | refine z_K (kk := fun _ => ?_) | refine z_L (kk := fun _ => ?_) | refine z_T (kk := ?_) | refine z_F (kk := ?_) | refine z_k (kk := fun _ _ _ _ _ => ?_) | refine z_w (kk := fun _ _ => ?_) | refine z_s (kk := fun _ _ _ _ => ?_) | refine z_g (kk := ?_) | refine z_h (kk := ?_)))
    refine Ops.call rfl rfl rfl rfl rfl (refValues_c hT4 hTF) (fun r w5 hR => ?_)
    obtain ⟨vs, hO5, hvs⟩ := hR
    have hb5 := hO5.bel
    have hb05 := Below.via hb04 hb5
    have hT5 := hT4.below hb5
    have hps5 := Sl.below hps4 hb5
    have hqs5 := Sl.below hqs4 hb5
    have hvl := hvs.len
    have hvsl : SlI w5 r vs := hO5.sl
    obtain ⟨Av, cv, rfl⟩ := hO5.sh
    obtain ⟨hp1, hp2⟩ := proof_facts hTF hE hvs
    obtain ⟨hq1, hq2⟩ := refute_facts hTF hF hvs
    clear hps hps3 hps4 hqs hqs4 hT1 hT2 hT3 hT4 hO5
    (repeat (first | with_reducible refine W.seq ?_ | with_reducible refine Ops.nil ?_ | with_reducible refine W.region ?_ | refine z_p (kk := ?_) | refine z_a (kk := ?_) | refine z_y (kk := ?_) | refine z_n (kk := ?_) | refine z_u (kk := ?_) | with_reducible refine W.skip ?_ | with_reducible refine W.endb ?_ | with_reducible refine W.block ?_ | refine W.exit rfl ?_ | refine z_l (kk := ?_) | refine z_f (kk := ?_) | refine z_M (kk := ?_) | refine z_m (kk := ?_) | refine z_e (kk := ?_) | refine z_E (kk := ?_) | refine z_d (kk := ?_) | refine z_I (kk := fun _ => ?_) | refine z_J (kk := fun _ => ?_) | refine z_K (kk := fun _ => ?_) | refine z_L (kk := fun _ => ?_) | refine z_T (kk := ?_) | refine z_F (kk := ?_) | refine z_k (kk := fun _ _ _ _ _ => ?_) | refine z_w (kk := fun _ _ => ?_) | refine z_s (kk := fun _ _ _ _ => ?_) | refine z_g (kk := ?_) | refine z_h (kk := ?_)))
    rw [show vs.getD (Int.toNat 0) 0 = vs.getD 0 0 from rfl]
    generalize hv0 : vs.getD 0 0 = v0 at *
    refine W.cut (fun ρ w' => ρ = [(1, .int .i64 b), (5, .slice At t.length ct), (8, .slice Aq qs.length cq), (9, .int .i64 qe), (10, .int .i64 v0)] ∧ Below w5.heap.size w5 w') ?_ ?_
    · (first | refine W.condD rfl (fun hc => ?_) (fun hc => ?_) | refine W.condE rfl (fun hc => ?_) (fun hc => ?_) | refine W.condN rfl (fun hc => ?_) (fun hc => ?_) | refine W.cond rfl (fun hc => ?_) (fun hc => ?_))
      · have hnf : ¬ (es.getD 0 (0, [])).1 < far := fun h => by have := hp1.1 h; omega
        obtain ⟨e1, e2, _⟩ : pe = 6 ∧ ps = [] ∧ _ := by
          rcases hpcase with h | h
          · exact h
          · exact absurd h.2.2 hnf
        subst e1 e2
        (repeat (first | with_reducible refine W.seq ?_ | with_reducible refine Ops.nil ?_ | with_reducible refine W.region ?_ | refine z_p (kk := ?_) | refine z_a (kk := ?_) | refine z_y (kk := ?_) | refine z_n (kk := ?_) | refine z_u (kk := ?_) | with_reducible refine W.skip ?_ | with_reducible refine W.endb ?_ | with_reducible refine W.block ?_ | refine W.exit rfl ?_ | refine z_l (kk := ?_) | refine z_f (kk := ?_) | refine z_M (kk := ?_) | refine z_m (kk := ?_) | refine z_e (kk := ?_) | refine z_E (kk := ?_) | refine z_d (kk := ?_) | refine z_I (kk := fun _ => ?_) | refine z_J (kk := fun _ => ?_) | refine z_K (kk := fun _ => ?_) | refine z_L (kk := fun _ => ?_) | refine z_T (kk := ?_) | refine z_F (kk := ?_) | refine z_k (kk := fun _ _ _ _ _ => ?_) | refine z_w (kk := fun _ _ => ?_) | refine z_s (kk := fun _ _ _ _ => ?_) | refine z_g (kk := ?_) | refine z_h (kk := ?_)))
        refine W.condF rfl (by first | rfl | assumption | (simp only [bnf] <;> omega) | (simp only [*, bnf]; done) | fail) ?_
        (repeat (first | with_reducible refine W.seq ?_ | with_reducible refine Ops.nil ?_ | with_reducible refine W.region ?_ | refine z_p (kk := ?_) | refine z_a (kk := ?_) | refine z_y (kk := ?_) | refine z_n (kk := ?_) | refine z_u (kk := ?_) | with_reducible refine W.skip ?_ | with_reducible refine W.endb ?_ | with_reducible refine W.block ?_ | refine W.exit rfl ?_ | refine z_l (kk := ?_) | refine z_f (kk := ?_) | refine z_M (kk := ?_) | refine z_m (kk := ?_) | refine z_e (kk := ?_) | refine z_E (kk := ?_) | refine z_d (kk := ?_) | refine z_I (kk := fun _ => ?_) | refine z_J (kk := fun _ => ?_) | refine z_K (kk := fun _ => ?_) | refine z_L (kk := fun _ => ?_) | refine z_T (kk := ?_) | refine z_F (kk := ?_) | refine z_k (kk := fun _ _ _ _ _ => ?_) | refine z_w (kk := fun _ _ => ?_) | refine z_s (kk := fun _ _ _ _ => ?_) | refine z_g (kk := ?_) | refine z_h (kk := ?_)))
        exact W.endl ⟨_, ⟨rfl, Below.refl _ _⟩, (by repeat (first | exact trivial | refine And.intro rfl ?_))⟩
      · have hlt : (es.getD 0 (0, [])).1 < far := hp1.2 (by omega)
        obtain ⟨e1, e2, _⟩ : pe = 0 ∧ ps = srt (es.getD 0 (0, [])).2 ∧ _ := by
          rcases hpcase with h | h
          · exact absurd hlt h.2.2
          · exact h
        obtain ⟨hq3, hq4, hq5⟩ := hp2 hlt
        have hls : Listed t ps := by rw [e2]; exact srt_listed hGE
        have hpl : ps.length = (es.getD 0 (0, [])).2.length := by rw [e2]; exact List.length_mergeSort _
        subst e1
        (repeat (first | with_reducible refine W.seq ?_ | with_reducible refine Ops.nil ?_ | with_reducible refine W.region ?_ | refine z_p (kk := ?_) | refine z_a (kk := ?_) | refine z_y (kk := ?_) | refine z_n (kk := ?_) | refine z_u (kk := ?_) | with_reducible refine W.skip ?_ | with_reducible refine W.endb ?_ | with_reducible refine W.block ?_ | refine W.exit rfl ?_ | refine z_l (kk := ?_) | refine z_f (kk := ?_) | refine z_M (kk := ?_) | refine z_m (kk := ?_) | refine z_e (kk := ?_) | refine z_E (kk := ?_) | refine z_d (kk := ?_) | refine z_I (kk := fun _ => ?_) | refine z_J (kk := fun _ => ?_) | refine z_K (kk := fun _ => ?_) | refine z_L (kk := fun _ => ?_) | refine z_T (kk := ?_) | refine z_F (kk := ?_) | refine z_k (kk := fun _ _ _ _ _ => ?_) | refine z_w (kk := fun _ _ => ?_) | refine z_s (kk := fun _ _ _ _ => ?_) | refine z_g (kk := ?_) | refine z_h (kk := ?_)))
        refine Ops.call rfl rfl rfl rfl rfl (listed_c hT5 hn60 hps5) (fun r w6 hR => ?_)
        obtain ⟨rfl, hb6⟩ := hR
        rw [decide_eq_true hls]
        (repeat (first | with_reducible refine W.seq ?_ | with_reducible refine Ops.nil ?_ | with_reducible refine W.region ?_ | refine z_p (kk := ?_) | refine z_a (kk := ?_) | refine z_y (kk := ?_) | refine z_n (kk := ?_) | refine z_u (kk := ?_) | with_reducible refine W.skip ?_ | with_reducible refine W.endb ?_ | with_reducible refine W.block ?_ | refine W.exit rfl ?_ | refine z_l (kk := ?_) | refine z_f (kk := ?_) | refine z_M (kk := ?_) | refine z_m (kk := ?_) | refine z_e (kk := ?_) | refine z_E (kk := ?_) | refine z_d (kk := ?_) | refine z_I (kk := fun _ => ?_) | refine z_J (kk := fun _ => ?_) | refine z_K (kk := fun _ => ?_) | refine z_L (kk := fun _ => ?_) | refine z_T (kk := ?_) | refine z_F (kk := ?_) | refine z_k (kk := fun _ _ _ _ _ => ?_) | refine z_w (kk := fun _ _ => ?_) | refine z_s (kk := fun _ _ _ _ => ?_) | refine z_g (kk := ?_) | refine z_h (kk := ?_)))
        refine Ops.call rfl rfl rfl rfl rfl (refProof_c (b := b) (hT5.below hb6) hTF) (fun r w7 hR => ?_)
        obtain ⟨hb7, rs, hrs, rfl⟩ := hR
        have hb67 := Below.via hb6 hb7
        rw [hq5 rs hrs, ← hpl]
        (repeat (first | with_reducible refine W.seq ?_ | with_reducible refine Ops.nil ?_ | with_reducible refine W.region ?_ | refine z_p (kk := ?_) | refine z_a (kk := ?_) | refine z_y (kk := ?_) | refine z_n (kk := ?_) | refine z_u (kk := ?_) | with_reducible refine W.skip ?_ | with_reducible refine W.endb ?_ | with_reducible refine W.block ?_ | refine W.exit rfl ?_ | refine z_l (kk := ?_) | refine z_f (kk := ?_) | refine z_M (kk := ?_) | refine z_m (kk := ?_) | refine z_e (kk := ?_) | refine z_E (kk := ?_) | refine z_d (kk := ?_) | refine z_I (kk := fun _ => ?_) | refine z_J (kk := fun _ => ?_) | refine z_K (kk := fun _ => ?_) | refine z_L (kk := fun _ => ?_) | refine z_T (kk := ?_) | refine z_F (kk := ?_) | refine z_k (kk := fun _ _ _ _ _ => ?_) | refine z_w (kk := fun _ _ => ?_) | refine z_s (kk := fun _ _ _ _ => ?_) | refine z_g (kk := ?_) | refine z_h (kk := ?_)))
        refine Ops.call rfl rfl rfl rfl rfl (least_c (hT5.below hb67) hTF (Sl.below hps5 hb67) hls) (fun r w8 hR => ?_)
        obtain ⟨hb8, us, hus, rfl⟩ := hR
        have hge := hq4 _ us hus (fun i _ _ hi => by rw [e2]; exact restF_in hi)
        (repeat (first | with_reducible refine W.seq ?_ | with_reducible refine Ops.nil ?_ | with_reducible refine W.region ?_ | refine z_p (kk := ?_) | refine z_a (kk := ?_) | refine z_y (kk := ?_) | refine z_n (kk := ?_) | refine z_u (kk := ?_) | with_reducible refine W.skip ?_ | with_reducible refine W.endb ?_ | with_reducible refine W.block ?_ | refine W.exit rfl ?_ | refine z_l (kk := ?_) | refine z_f (kk := ?_) | refine z_M (kk := ?_) | refine z_m (kk := ?_) | refine z_e (kk := ?_) | refine z_E (kk := ?_) | refine z_d (kk := ?_) | refine z_I (kk := fun _ => ?_) | refine z_J (kk := fun _ => ?_) | refine z_K (kk := fun _ => ?_) | refine z_L (kk := fun _ => ?_) | refine z_T (kk := ?_) | refine z_F (kk := ?_) | refine z_k (kk := fun _ _ _ _ _ => ?_) | refine z_w (kk := fun _ _ => ?_) | refine z_s (kk := fun _ _ _ _ => ?_) | refine z_g (kk := ?_) | refine z_h (kk := ?_)))
        refine W.condF rfl (by first | rfl | assumption | (simp only [bnf] <;> omega) | (simp only [*, bnf]; done) | fail) ?_
        (repeat (first | with_reducible refine W.seq ?_ | with_reducible refine Ops.nil ?_ | with_reducible refine W.region ?_ | refine z_p (kk := ?_) | refine z_a (kk := ?_) | refine z_y (kk := ?_) | refine z_n (kk := ?_) | refine z_u (kk := ?_) | with_reducible refine W.skip ?_ | with_reducible refine W.endb ?_ | with_reducible refine W.block ?_ | refine W.exit rfl ?_ | refine z_l (kk := ?_) | refine z_f (kk := ?_) | refine z_M (kk := ?_) | refine z_m (kk := ?_) | refine z_e (kk := ?_) | refine z_E (kk := ?_) | refine z_d (kk := ?_) | refine z_I (kk := fun _ => ?_) | refine z_J (kk := fun _ => ?_) | refine z_K (kk := fun _ => ?_) | refine z_L (kk := fun _ => ?_) | refine z_T (kk := ?_) | refine z_F (kk := ?_) | refine z_k (kk := fun _ _ _ _ _ => ?_) | refine z_w (kk := fun _ _ => ?_) | refine z_s (kk := fun _ _ _ _ => ?_) | refine z_g (kk := ?_) | refine z_h (kk := ?_)))
        exact W.endl ⟨_, ⟨rfl, Below.via hb67 hb8⟩, (by repeat (first | exact trivial | refine And.intro rfl ?_))⟩
    rintro ρ w6 ⟨rfl, hb6⟩
    have hb06 := Below.via hb05 hb6
    have hT6 := hT5.below hb6
    have hqs6 := Sl.below hqs5 hb6
    (repeat (first | with_reducible refine W.seq ?_ | with_reducible refine Ops.nil ?_ | with_reducible refine W.region ?_ | refine z_p (kk := ?_) | refine z_a (kk := ?_) | refine z_y (kk := ?_) | refine z_n (kk := ?_) | refine z_u (kk := ?_) | with_reducible refine W.skip ?_ | with_reducible refine W.endb ?_ | with_reducible refine W.block ?_ | refine W.exit rfl ?_ | refine z_l (kk := ?_) | refine z_f (kk := ?_) | refine z_M (kk := ?_) | refine z_m (kk := ?_) | refine z_e (kk := ?_) | refine z_E (kk := ?_) | refine z_d (kk := ?_) | refine z_I (kk := fun _ => ?_) | refine z_J (kk := fun _ => ?_) | refine z_K (kk := fun _ => ?_) | refine z_L (kk := fun _ => ?_) | refine z_T (kk := ?_) | refine z_F (kk := ?_) | refine z_k (kk := fun _ _ _ _ _ => ?_) | refine z_w (kk := fun _ _ => ?_) | refine z_s (kk := fun _ _ _ _ => ?_) | refine z_g (kk := ?_) | refine z_h (kk := ?_)))
    (first | refine W.condD rfl (fun hc => ?_) (fun hc => ?_) | refine W.condE rfl (fun hc => ?_) (fun hc => ?_) | refine W.condN rfl (fun hc => ?_) (fun hc => ?_) | refine W.cond rfl (fun hc => ?_) (fun hc => ?_))
    · have hnf : ¬ (fs.getD 0 (0, [])).1 < far := fun h => by have := hq1.1 h; omega
      obtain ⟨e1, e2, _⟩ : qe = 6 ∧ qs = [] ∧ _ := by
        rcases hqcase with h | h
        · exact h
        · exact absurd h.2.2 hnf
      subst e1 e2
      (repeat (first | with_reducible refine W.seq ?_ | with_reducible refine Ops.nil ?_ | with_reducible refine W.region ?_ | refine z_p (kk := ?_) | refine z_a (kk := ?_) | refine z_y (kk := ?_) | refine z_n (kk := ?_) | refine z_u (kk := ?_) | with_reducible refine W.skip ?_ | with_reducible refine W.endb ?_ | with_reducible refine W.block ?_ | refine W.exit rfl ?_ | refine z_l (kk := ?_) | refine z_f (kk := ?_) | refine z_M (kk := ?_) | refine z_m (kk := ?_) | refine z_e (kk := ?_) | refine z_E (kk := ?_) | refine z_d (kk := ?_) | refine z_I (kk := fun _ => ?_) | refine z_J (kk := fun _ => ?_) | refine z_K (kk := fun _ => ?_) | refine z_L (kk := fun _ => ?_) | refine z_T (kk := ?_) | refine z_F (kk := ?_) | refine z_k (kk := fun _ _ _ _ _ => ?_) | refine z_w (kk := fun _ _ => ?_) | refine z_s (kk := fun _ _ _ _ => ?_) | refine z_g (kk := ?_) | refine z_h (kk := ?_)))
      refine Ops.call rfl rfl rfl rfl rfl (awake_c _) (fun r w7 hR => ?_)
      obtain ⟨rfl, hb7⟩ := hR
      (repeat (first | with_reducible refine W.seq ?_ | with_reducible refine Ops.nil ?_ | with_reducible refine W.region ?_ | refine z_p (kk := ?_) | refine z_a (kk := ?_) | refine z_y (kk := ?_) | refine z_n (kk := ?_) | refine z_u (kk := ?_) | with_reducible refine W.skip ?_ | with_reducible refine W.endb ?_ | with_reducible refine W.block ?_ | refine W.exit rfl ?_ | refine z_l (kk := ?_) | refine z_f (kk := ?_) | refine z_M (kk := ?_) | refine z_m (kk := ?_) | refine z_e (kk := ?_) | refine z_E (kk := ?_) | refine z_d (kk := ?_) | refine z_I (kk := fun _ => ?_) | refine z_J (kk := fun _ => ?_) | refine z_K (kk := fun _ => ?_) | refine z_L (kk := fun _ => ?_) | refine z_T (kk := ?_) | refine z_F (kk := ?_) | refine z_k (kk := fun _ _ _ _ _ => ?_) | refine z_w (kk := fun _ _ => ?_) | refine z_s (kk := fun _ _ _ _ => ?_) | refine z_g (kk := ?_) | refine z_h (kk := ?_)))
      exact W.fret rfl ⟨rfl, Below.via hb06 hb7⟩
    · have hlt : (fs.getD 0 (0, [])).1 < far := hq1.2 (by omega)
      obtain ⟨e1, e2, _⟩ : qe = 0 ∧ qs = srt (fs.getD 0 (0, [])).2 ∧ _ := by
        rcases hqcase with h | h
        · exact absurd hlt h.2.2
        · exact h
      obtain ⟨hq3, hq4, hq5⟩ := hq2 hlt
      have hls : Listed t qs := by rw [e2]; exact srt_listed hGF
      have hpl : qs.length = (fs.getD 0 (0, [])).2.length := by rw [e2]; exact List.length_mergeSort _
      subst e1
      (repeat (first | with_reducible refine W.seq ?_ | with_reducible refine Ops.nil ?_ | with_reducible refine W.region ?_ | refine z_p (kk := ?_) | refine z_a (kk := ?_) | refine z_y (kk := ?_) | refine z_n (kk := ?_) | refine z_u (kk := ?_) | with_reducible refine W.skip ?_ | with_reducible refine W.endb ?_ | with_reducible refine W.block ?_ | refine W.exit rfl ?_ | refine z_l (kk := ?_) | refine z_f (kk := ?_) | refine z_M (kk := ?_) | refine z_m (kk := ?_) | refine z_e (kk := ?_) | refine z_E (kk := ?_) | refine z_d (kk := ?_) | refine z_I (kk := fun _ => ?_) | refine z_J (kk := fun _ => ?_) | refine z_K (kk := fun _ => ?_) | refine z_L (kk := fun _ => ?_) | refine z_T (kk := ?_) | refine z_F (kk := ?_) | refine z_k (kk := fun _ _ _ _ _ => ?_) | refine z_w (kk := fun _ _ => ?_) | refine z_s (kk := fun _ _ _ _ => ?_) | refine z_g (kk := ?_) | refine z_h (kk := ?_)))
      refine Ops.call rfl rfl rfl rfl rfl (listed_c hT6 hn60 hqs6) (fun r w7 hR => ?_)
      obtain ⟨rfl, hb7⟩ := hR
      rw [decide_eq_true hls]
      (repeat (first | with_reducible refine W.seq ?_ | with_reducible refine Ops.nil ?_ | with_reducible refine W.region ?_ | refine z_p (kk := ?_) | refine z_a (kk := ?_) | refine z_y (kk := ?_) | refine z_n (kk := ?_) | refine z_u (kk := ?_) | with_reducible refine W.skip ?_ | with_reducible refine W.endb ?_ | with_reducible refine W.block ?_ | refine W.exit rfl ?_ | refine z_l (kk := ?_) | refine z_f (kk := ?_) | refine z_M (kk := ?_) | refine z_m (kk := ?_) | refine z_e (kk := ?_) | refine z_E (kk := ?_) | refine z_d (kk := ?_) | refine z_I (kk := fun _ => ?_) | refine z_J (kk := fun _ => ?_) | refine z_K (kk := fun _ => ?_) | refine z_L (kk := fun _ => ?_) | refine z_T (kk := ?_) | refine z_F (kk := ?_) | refine z_k (kk := fun _ _ _ _ _ => ?_) | refine z_w (kk := fun _ _ => ?_) | refine z_s (kk := fun _ _ _ _ => ?_) | refine z_g (kk := ?_) | refine z_h (kk := ?_)))
      refine Ops.call rfl rfl rfl rfl rfl (refRefute_c (b := b) (hT6.below hb7) hTF) (fun r w8 hR => ?_)
      obtain ⟨hb8, rs, hrs, rfl⟩ := hR
      have hb68 := Below.via hb7 hb8
      rw [hq5 rs hrs, ← hpl]
      (repeat (first | with_reducible refine W.seq ?_ | with_reducible refine Ops.nil ?_ | with_reducible refine W.region ?_ | refine z_p (kk := ?_) | refine z_a (kk := ?_) | refine z_y (kk := ?_) | refine z_n (kk := ?_) | refine z_u (kk := ?_) | with_reducible refine W.skip ?_ | with_reducible refine W.endb ?_ | with_reducible refine W.block ?_ | refine W.exit rfl ?_ | refine z_l (kk := ?_) | refine z_f (kk := ?_) | refine z_M (kk := ?_) | refine z_m (kk := ?_) | refine z_e (kk := ?_) | refine z_E (kk := ?_) | refine z_d (kk := ?_) | refine z_I (kk := fun _ => ?_) | refine z_J (kk := fun _ => ?_) | refine z_K (kk := fun _ => ?_) | refine z_L (kk := fun _ => ?_) | refine z_T (kk := ?_) | refine z_F (kk := ?_) | refine z_k (kk := fun _ _ _ _ _ => ?_) | refine z_w (kk := fun _ _ => ?_) | refine z_s (kk := fun _ _ _ _ => ?_) | refine z_g (kk := ?_) | refine z_h (kk := ?_)))
      refine Ops.call rfl rfl rfl rfl rfl (most_c (hT6.below hb68) hTF (Sl.below hqs6 hb68) hls) (fun r w9 hR => ?_)
      obtain ⟨hb9, us, hus, rfl⟩ := hR
      have hge := hq4 _ us hus (fun i _ _ hi => by rw [e2]; exact restF_in hi)
      (repeat (first | with_reducible refine W.seq ?_ | with_reducible refine Ops.nil ?_ | with_reducible refine W.region ?_ | refine z_p (kk := ?_) | refine z_a (kk := ?_) | refine z_y (kk := ?_) | refine z_n (kk := ?_) | refine z_u (kk := ?_) | with_reducible refine W.skip ?_ | with_reducible refine W.endb ?_ | with_reducible refine W.block ?_ | refine W.exit rfl ?_ | refine z_l (kk := ?_) | refine z_f (kk := ?_) | refine z_M (kk := ?_) | refine z_m (kk := ?_) | refine z_e (kk := ?_) | refine z_E (kk := ?_) | refine z_d (kk := ?_) | refine z_I (kk := fun _ => ?_) | refine z_J (kk := fun _ => ?_) | refine z_K (kk := fun _ => ?_) | refine z_L (kk := fun _ => ?_) | refine z_T (kk := ?_) | refine z_F (kk := ?_) | refine z_k (kk := fun _ _ _ _ _ => ?_) | refine z_w (kk := fun _ _ => ?_) | refine z_s (kk := fun _ _ _ _ => ?_) | refine z_g (kk := ?_) | refine z_h (kk := ?_)))
      refine Ops.call rfl rfl rfl rfl rfl (awake_c _) (fun r w10 hR => ?_)
      obtain ⟨rfl, hb10⟩ := hR
      (repeat (first | with_reducible refine W.seq ?_ | with_reducible refine Ops.nil ?_ | with_reducible refine W.region ?_ | refine z_p (kk := ?_) | refine z_a (kk := ?_) | refine z_y (kk := ?_) | refine z_n (kk := ?_) | refine z_u (kk := ?_) | with_reducible refine W.skip ?_ | with_reducible refine W.endb ?_ | with_reducible refine W.block ?_ | refine W.exit rfl ?_ | refine z_l (kk := ?_) | refine z_f (kk := ?_) | refine z_M (kk := ?_) | refine z_m (kk := ?_) | refine z_e (kk := ?_) | refine z_E (kk := ?_) | refine z_d (kk := ?_) | refine z_I (kk := fun _ => ?_) | refine z_J (kk := fun _ => ?_) | refine z_K (kk := fun _ => ?_) | refine z_L (kk := fun _ => ?_) | refine z_T (kk := ?_) | refine z_F (kk := ?_) | refine z_k (kk := fun _ _ _ _ _ => ?_) | refine z_w (kk := fun _ _ => ?_) | refine z_s (kk := fun _ _ _ _ => ?_) | refine z_g (kk := ?_) | refine z_h (kk := ?_)))
      exact W.fret rfl ⟨rfl, Below.via (Below.via (Below.via hb06 hb68) hb9) hb10⟩
  · have hno : (if -1000 ≤ b ∧ b ≤ 1000 then gameOf t else none) = none := by
      split
      · rename_i h
        cases hg : gameOf t with
        | none => rfl
        | some dep => exact absurd ⟨dep, hg, h⟩ hgood
      · rfl
    unfold ProvedR at hP
    rw [hno] at hP
    obtain rfl := hP
    (repeat (first | with_reducible refine W.seq ?_ | with_reducible refine Ops.nil ?_ | with_reducible refine W.region ?_ | refine z_p (kk := ?_) | refine z_a (kk := ?_) | refine z_y (kk := ?_) | refine z_n (kk := ?_) | refine z_u (kk := ?_) | with_reducible refine W.skip ?_ | with_reducible refine W.endb ?_ | with_reducible refine W.block ?_ | refine W.exit rfl ?_ | refine z_l (kk := ?_) | refine z_f (kk := ?_) | refine z_M (kk := ?_) | refine z_m (kk := ?_) | refine z_e (kk := ?_) | refine z_E (kk := ?_) | refine z_d (kk := ?_) | refine z_I (kk := fun _ => ?_) | refine z_J (kk := fun _ => ?_) | refine z_K (kk := fun _ => ?_) | refine z_L (kk := fun _ => ?_) | refine z_T (kk := ?_) | refine z_F (kk := ?_) | refine z_k (kk := fun _ _ _ _ _ => ?_) | refine z_w (kk := fun _ _ => ?_) | refine z_s (kk := fun _ _ _ _ => ?_) | refine z_g (kk := ?_) | refine z_h (kk := ?_)))
    refine Ops.call rfl rfl rfl rfl rfl (refute_c (b := b) hT2 (by omega)) (fun r w3 hR => ?_)
    obtain ⟨hb3, hQ⟩ := hR
    have hb03 := Below.via hb02 hb3
    have hT3 := hT2.below hb3
    unfold ProvedR at hQ
    rw [hno] at hQ
    obtain rfl := hQ
    (repeat (first | with_reducible refine W.seq ?_ | with_reducible refine Ops.nil ?_ | with_reducible refine W.region ?_ | refine z_p (kk := ?_) | refine z_a (kk := ?_) | refine z_y (kk := ?_) | refine z_n (kk := ?_) | refine z_u (kk := ?_) | with_reducible refine W.skip ?_ | with_reducible refine W.endb ?_ | with_reducible refine W.block ?_ | refine W.exit rfl ?_ | refine z_l (kk := ?_) | refine z_f (kk := ?_) | refine z_M (kk := ?_) | refine z_m (kk := ?_) | refine z_e (kk := ?_) | refine z_E (kk := ?_) | refine z_d (kk := ?_) | refine z_I (kk := fun _ => ?_) | refine z_J (kk := fun _ => ?_) | refine z_K (kk := fun _ => ?_) | refine z_L (kk := fun _ => ?_) | refine z_T (kk := ?_) | refine z_F (kk := ?_) | refine z_k (kk := fun _ _ _ _ _ => ?_) | refine z_w (kk := fun _ _ => ?_) | refine z_s (kk := fun _ _ _ _ => ?_) | refine z_g (kk := ?_) | refine z_h (kk := ?_)))
    refine Ops.call rfl rfl rfl rfl rfl (refTree_c hT3 hkl) (fun r w4 hR => ?_)
    obtain ⟨rfl, hb4⟩ := hR
    have hb04 := Below.via hb03 hb4
    refine Ops.cut (fun ρ w' => ρ = [(32, .bool true), (6, .slice none 0 0), (7, .int .i64 2), (8, .slice none 0 0), (9, .int .i64 2)] ∧ Below w.heap.size w w') ?_ ?_
    · cases hg : gameOf t with
      | none =>
        (repeat (first | with_reducible refine W.seq ?_ | with_reducible refine Ops.nil ?_ | with_reducible refine W.region ?_ | refine z_p (kk := ?_) | refine z_a (kk := ?_) | refine z_y (kk := ?_) | refine z_n (kk := ?_) | refine z_u (kk := ?_) | with_reducible refine W.skip ?_ | with_reducible refine W.endb ?_ | with_reducible refine W.block ?_ | refine W.exit rfl ?_ | refine z_l (kk := ?_) | refine z_f (kk := ?_) | refine z_M (kk := ?_) | refine z_m (kk := ?_) | refine z_e (kk := ?_) | refine z_E (kk := ?_) | refine z_d (kk := ?_) | refine z_I (kk := fun _ => ?_) | refine z_J (kk := fun _ => ?_) | refine z_K (kk := fun _ => ?_) | refine z_L (kk := fun _ => ?_) | refine z_T (kk := ?_) | refine z_F (kk := ?_) | refine z_k (kk := fun _ _ _ _ _ => ?_) | refine z_w (kk := fun _ _ => ?_) | refine z_s (kk := fun _ _ _ _ => ?_) | refine z_g (kk := ?_) | refine z_h (kk := ?_)))
        exact W.endl ⟨_, ⟨rfl, hb04⟩, (by repeat (first | exact trivial | refine And.intro rfl ?_))⟩
      | some dep =>
        have hbd : ¬ (-1000 ≤ b ∧ b ≤ 1000) := fun h => hgood ⟨dep, hg, h⟩
        (repeat (first | with_reducible refine W.seq ?_ | with_reducible refine Ops.nil ?_ | with_reducible refine W.region ?_ | refine z_p (kk := ?_) | refine z_a (kk := ?_) | refine z_y (kk := ?_) | refine z_n (kk := ?_) | refine z_u (kk := ?_) | with_reducible refine W.skip ?_ | with_reducible refine W.endb ?_ | with_reducible refine W.block ?_ | refine W.exit rfl ?_ | refine z_l (kk := ?_) | refine z_f (kk := ?_) | refine z_M (kk := ?_) | refine z_m (kk := ?_) | refine z_e (kk := ?_) | refine z_E (kk := ?_) | refine z_d (kk := ?_) | refine z_I (kk := fun _ => ?_) | refine z_J (kk := fun _ => ?_) | refine z_K (kk := fun _ => ?_) | refine z_L (kk := fun _ => ?_) | refine z_T (kk := ?_) | refine z_F (kk := ?_) | refine z_k (kk := fun _ _ _ _ _ => ?_) | refine z_w (kk := fun _ _ => ?_) | refine z_s (kk := fun _ _ _ _ => ?_) | refine z_g (kk := ?_) | refine z_h (kk := ?_)))
        refine Ops.callS rfl rfl rfl rfl rfl (bound_c _ _) ?_
        rw [decide_eq_false hbd]
        (repeat (first | with_reducible refine W.seq ?_ | with_reducible refine Ops.nil ?_ | with_reducible refine W.region ?_ | refine z_p (kk := ?_) | refine z_a (kk := ?_) | refine z_y (kk := ?_) | refine z_n (kk := ?_) | refine z_u (kk := ?_) | with_reducible refine W.skip ?_ | with_reducible refine W.endb ?_ | with_reducible refine W.block ?_ | refine W.exit rfl ?_ | refine z_l (kk := ?_) | refine z_f (kk := ?_) | refine z_M (kk := ?_) | refine z_m (kk := ?_) | refine z_e (kk := ?_) | refine z_E (kk := ?_) | refine z_d (kk := ?_) | refine z_I (kk := fun _ => ?_) | refine z_J (kk := fun _ => ?_) | refine z_K (kk := fun _ => ?_) | refine z_L (kk := fun _ => ?_) | refine z_T (kk := ?_) | refine z_F (kk := ?_) | refine z_k (kk := fun _ _ _ _ _ => ?_) | refine z_w (kk := fun _ _ => ?_) | refine z_s (kk := fun _ _ _ _ => ?_) | refine z_g (kk := ?_) | refine z_h (kk := ?_)))
        exact W.endl ⟨_, ⟨rfl, hb04⟩, (by repeat (first | exact trivial | refine And.intro rfl ?_))⟩
    rintro ρ w6 ⟨rfl, hb06⟩
    refine W.condT rfl (by first | rfl | assumption | (simp only [bnf] <;> omega) | (simp only [*, bnf]; done) | fail) ?_
    (repeat (first | with_reducible refine W.seq ?_ | with_reducible refine Ops.nil ?_ | with_reducible refine W.region ?_ | refine z_p (kk := ?_) | refine z_a (kk := ?_) | refine z_y (kk := ?_) | refine z_n (kk := ?_) | refine z_u (kk := ?_) | with_reducible refine W.skip ?_ | with_reducible refine W.endb ?_ | with_reducible refine W.block ?_ | refine W.exit rfl ?_ | refine z_l (kk := ?_) | refine z_f (kk := ?_) | refine z_M (kk := ?_) | refine z_m (kk := ?_) | refine z_e (kk := ?_) | refine z_E (kk := ?_) | refine z_d (kk := ?_) | refine z_I (kk := fun _ => ?_) | refine z_J (kk := fun _ => ?_) | refine z_K (kk := fun _ => ?_) | refine z_L (kk := fun _ => ?_) | refine z_T (kk := ?_) | refine z_F (kk := ?_) | refine z_k (kk := fun _ _ _ _ _ => ?_) | refine z_w (kk := fun _ _ => ?_) | refine z_s (kk := fun _ _ _ _ => ?_) | refine z_g (kk := ?_) | refine z_h (kk := ?_)))
    refine Ops.call rfl rfl rfl rfl rfl (awake_c _) (fun r w7 hR => ?_)
    obtain ⟨rfl, hb7⟩ := hR
    (repeat (first | with_reducible refine W.seq ?_ | with_reducible refine Ops.nil ?_ | with_reducible refine W.region ?_ | refine z_p (kk := ?_) | refine z_a (kk := ?_) | refine z_y (kk := ?_) | refine z_n (kk := ?_) | refine z_u (kk := ?_) | with_reducible refine W.skip ?_ | with_reducible refine W.endb ?_ | with_reducible refine W.block ?_ | refine W.exit rfl ?_ | refine z_l (kk := ?_) | refine z_f (kk := ?_) | refine z_M (kk := ?_) | refine z_m (kk := ?_) | refine z_e (kk := ?_) | refine z_E (kk := ?_) | refine z_d (kk := ?_) | refine z_I (kk := fun _ => ?_) | refine z_J (kk := fun _ => ?_) | refine z_K (kk := fun _ => ?_) | refine z_L (kk := fun _ => ?_) | refine z_T (kk := ?_) | refine z_F (kk := ?_) | refine z_k (kk := fun _ _ _ _ _ => ?_) | refine z_w (kk := fun _ _ => ?_) | refine z_s (kk := fun _ _ _ _ => ?_) | refine z_g (kk := ?_) | refine z_h (kk := ?_)))
    exact W.fret rfl ⟨rfl, Below.via hb06 hb7⟩
end Go.Proofs.Ytdiljpnfochndaa
/- Values in bounds; and that there are values. -/
namespace Go.Proofs.Ytdiljpnfochndaa.HP
theorem val_bd {l : List Nd} {dep : List Int} (hT : TF l dep) {wf : Int → Int} {vs : List Int} (hv : ValP l dep wf vs) {lo hi : Int} (h : ∀ i : Nat, i < l.length → leafB l i = true → lo ≤ wf i ∧ wf i ≤ hi) : ∀ j : Nat, j < l.length → lo ≤ vs.getD j 0 ∧ vs.getD j 0 ≤ hi := by
  refine tree_ind hT (Q := fun j => lo ≤ vs.getD j 0 ∧ vs.getD j 0 ≤ hi) fun j hj hk => ?_
  have kD : ∀ x ∈ kid l j, lo ≤ rd vs x ∧ rd vs x ≤ hi := fun x hx => by obtain ⟨i, rfl, hi, h⟩ := hk x hx; exact h
  rw [hv.at_ j hj]
  unfold NV
  by_cases hl : leafB l j = true
  · rw [if_pos hl]; exact h j hj hl
  · have hne := leaf_ne hl
    obtain ⟨c, hc⟩ := List.exists_mem_of_ne_nil _ hne
    rw [if_neg hl]
    by_cases he : evB dep j = true
    · rw [if_pos he, maxL_ge hne, maxL_le hne]
      exact ⟨⟨c, hc, (kD c hc).1⟩, fun x hx => (kD x hx).2⟩
    · rw [if_neg he, minL_ge hne, minL_le hne]
      exact ⟨fun x hx => (kD x hx).1, ⟨c, hc, (kD c hc).2⟩⟩
theorem val_ex {l : List Nd} {dep : List Int} (hT : TF l dep) (wf : Int → Int) : ∃ vs, ValP l dep wf vs := by
  have key : ∀ d q : Nat, l.length - q = d → q ≤ l.length → ∃ os : List Int, os.length = l.length ∧ ∀ j : Nat, q ≤ j → j < l.length → os.getD j 0 = NV l dep wf os j := by
    intro d
    induction d with
    | zero => intro q hd hq; exact ⟨List.replicate l.length 0, by simp, fun j h1 h2 => by omega⟩
    | succ d ih =>
      intro q hd hq
      obtain ⟨os, h1, h2⟩ := ih (q + 1) (by omega) (by omega)
      exact ⟨os.set q (NV l dep wf os q), by simp [h1], val_set hT (by omega) h1 rfl h2⟩
  obtain ⟨os, h1, h2⟩ := key _ 0 rfl (Nat.zero_le _)
  exact ⟨os, h1, fun j hj => h2 j (Nat.zero_le _) hj⟩
theorem wor_bd {l : List Nd} {dep : List Int} (hT : TF l dep) {vs : List Int} (hv : ValP l dep (wor l) vs) : -100 ≤ vs.getD 0 0 ∧ vs.getD 0 0 ≤ 100 :=
  val_bd hT hv (fun i hi _ => ⟨(hT.wor i hi).1, (hT.wor i hi).2.1⟩) 0 (by have := hT.n1; omega)
end Go.Proofs.Ytdiljpnfochndaa.HP
namespace Go.Proofs.Ytdiljpnfochndaa
open Go Go.RowKit Go.Proofs.Ytdiljpnfochndaa.VW
open Go.Proofs.Ytdiljpnfochndaa.HP (tameM tame_TK modM modM_bd Nd kid wor leafB rd gameOf gameOf_TF TF TK turnM turn_len turn_TK ValP far NeedP srS)
attribute [local irreducible] W Ops OrdA VW.Ord OrdX
theorem turn_take {l : List Nd} {i : Nat} (h : i < l.length) : (l.take (i + 1)).map (fun x : Nd => (x.1.map (· + 1), -x.2)) = (l.take i).map (fun x : Nd => (x.1.map (· + 1), -x.2)) ++ [((kid l i).map (· + 1), - wor l i)] := by
  rw [List.take_succ_eq_append_getElem h, List.map_append]
  simp [kid, wor, List.getD_eq_getElem?_getD, h]
theorem map_take_succ {xs : List Int} {j : Nat} (h : j < xs.length) : (xs.take (j + 1)).map (· + 1) = (xs.take j).map (· + 1) ++ [xs.getD j 0 + 1] := by
  rw [Go.Proofs.Ytdiljpnfochndaa.HP.take_snoc xs j h, List.map_append]
  rfl
def TurnR (l : List Nd) (w w' : World) (r : Value) : Prop := (if l.length = 60 then none else gameOf l).elim (r = .tuple #[.slice none 0 0, .int .i64 2]) fun dep => ∃ ov cvs, r = .tuple #[ov, .int .i64 0] ∧ TO w w' ov (turnM l) cvs
set_option maxHeartbeats 2000000 in
theorem turned_c {w : World} {v : Value} {l : List Nd} (hT : TreeM w v l) (hl : l.length ≤ 9223372036854775807) :
    Calls Try.prog 37 #[v] w (Ret fun r w' => Below w.heap.size w w' ∧ TurnR l w w' r) := by
  obtain ⟨At, ct, rfl⟩ := hT.sl
  refine calls_W (vs := [_]) Try.func37 rfl (by kernel_rfl) rfl ?_
  (repeat (first | with_reducible refine W.seq ?_ | with_reducible refine Ops.nil ?_ | with_reducible refine W.region ?_ | refine z_p (kk := ?_) | refine z_a (kk := ?_) | refine z_y (kk := ?_) | refine z_n (kk := ?_) | refine z_u (kk := ?_) | with_reducible refine W.skip ?_ | with_reducible refine W.endb ?_ | with_reducible refine W.block ?_ | refine W.exit rfl ?_ | refine z_l (kk := ?_) | refine z_f (kk := ?_) | refine z_M (kk := ?_) | refine z_m (kk := ?_) | refine z_e (kk := ?_) | refine z_E (kk := ?_) | refine z_d (kk := ?_) | refine z_I (kk := fun _ => ?_) | refine z_J (kk := fun _ => ?_) | refine z_K (kk := fun _ => ?_) | refine z_L (kk := fun _ => ?_) | refine z_T (kk := ?_) | refine z_F (kk := ?_) | refine z_k (kk := fun _ _ _ _ _ => ?_) | refine z_w (kk := fun _ _ => ?_) | refine z_s (kk := fun _ _ _ _ => ?_) | refine z_g (kk := ?_) | refine z_h (kk := ?_)))
  refine Ops.call rfl rfl rfl rfl rfl (newGame_c hT hl) (fun r w1 hR => ?_)
  obtain ⟨hb1, hR⟩ := hR
  cases hg : gameOf l with
  | none =>
    rw [hg] at hR
    obtain ⟨p, hp1, rfl⟩ := hR
    (repeat (first | with_reducible refine W.seq ?_ | with_reducible refine Ops.nil ?_ | with_reducible refine W.region ?_ | refine z_p (kk := ?_) | refine z_a (kk := ?_) | refine z_y (kk := ?_) | refine z_n (kk := ?_) | refine z_u (kk := ?_) | with_reducible refine W.skip ?_ | with_reducible refine W.endb ?_ | with_reducible refine W.block ?_ | refine W.exit rfl ?_ | refine z_l (kk := ?_) | refine z_f (kk := ?_) | refine z_M (kk := ?_) | refine z_m (kk := ?_) | refine z_e (kk := ?_) | refine z_E (kk := ?_) | refine z_d (kk := ?_) | refine z_I (kk := fun _ => ?_) | refine z_J (kk := fun _ => ?_) | refine z_K (kk := fun _ => ?_) | refine z_L (kk := fun _ => ?_) | refine z_T (kk := ?_) | refine z_F (kk := ?_) | refine z_k (kk := fun _ _ _ _ _ => ?_) | refine z_w (kk := fun _ _ => ?_) | refine z_s (kk := fun _ _ _ _ => ?_) | refine z_g (kk := ?_) | refine z_h (kk := ?_)))
    refine W.condT rfl (by first | rfl | assumption | (simp only [bnf] <;> omega) | (simp only [*, bnf]; done) | fail) ?_
    (repeat (first | with_reducible refine W.seq ?_ | with_reducible refine Ops.nil ?_ | with_reducible refine W.region ?_ | refine z_p (kk := ?_) | refine z_a (kk := ?_) | refine z_y (kk := ?_) | refine z_n (kk := ?_) | refine z_u (kk := ?_) | with_reducible refine W.skip ?_ | with_reducible refine W.endb ?_ | with_reducible refine W.block ?_ | refine W.exit rfl ?_ | refine z_l (kk := ?_) | refine z_f (kk := ?_) | refine z_M (kk := ?_) | refine z_m (kk := ?_) | refine z_e (kk := ?_) | refine z_E (kk := ?_) | refine z_d (kk := ?_) | refine z_I (kk := fun _ => ?_) | refine z_J (kk := fun _ => ?_) | refine z_K (kk := fun _ => ?_) | refine z_L (kk := fun _ => ?_) | refine z_T (kk := ?_) | refine z_F (kk := ?_) | refine z_k (kk := fun _ _ _ _ _ => ?_) | refine z_w (kk := fun _ _ => ?_) | refine z_s (kk := fun _ _ _ _ => ?_) | refine z_g (kk := ?_) | refine z_h (kk := ?_)))
    exact W.fret rfl ⟨hb1, by simp only [TurnR, hg, ite_self]; rfl⟩
  | some dep =>
    rw [hg] at hR
    obtain ⟨g, rfl, hgs, hG⟩ := hR
    have hTF := gameOf_TF hg
    have hn60 := hTF.n60
    have hn1 := hTF.n1
    by_cases h60 : l.length = 60
    · (repeat (first | with_reducible refine W.seq ?_ | with_reducible refine Ops.nil ?_ | with_reducible refine W.region ?_ | refine z_p (kk := ?_) | refine z_a (kk := ?_) | refine z_y (kk := ?_) | refine z_n (kk := ?_) | refine z_u (kk := ?_) | with_reducible refine W.skip ?_ | with_reducible refine W.endb ?_ | with_reducible refine W.block ?_ | refine W.exit rfl ?_ | refine z_l (kk := ?_) | refine z_f (kk := ?_) | refine z_M (kk := ?_) | refine z_m (kk := ?_) | refine z_e (kk := ?_) | refine z_E (kk := ?_) | refine z_d (kk := ?_) | refine z_I (kk := fun _ => ?_) | refine z_J (kk := fun _ => ?_) | refine z_K (kk := fun _ => ?_) | refine z_L (kk := fun _ => ?_) | refine z_T (kk := ?_) | refine z_F (kk := ?_) | refine z_k (kk := fun _ _ _ _ _ => ?_) | refine z_w (kk := fun _ _ => ?_) | refine z_s (kk := fun _ _ _ _ => ?_) | refine z_g (kk := ?_) | refine z_h (kk := ?_)))
      refine W.condT rfl (by first | rfl | assumption | (simp only [bnf] <;> omega) | (simp only [*, bnf]; done) | fail) ?_
      (repeat (first | with_reducible refine W.seq ?_ | with_reducible refine Ops.nil ?_ | with_reducible refine W.region ?_ | refine z_p (kk := ?_) | refine z_a (kk := ?_) | refine z_y (kk := ?_) | refine z_n (kk := ?_) | refine z_u (kk := ?_) | with_reducible refine W.skip ?_ | with_reducible refine W.endb ?_ | with_reducible refine W.block ?_ | refine W.exit rfl ?_ | refine z_l (kk := ?_) | refine z_f (kk := ?_) | refine z_M (kk := ?_) | refine z_m (kk := ?_) | refine z_e (kk := ?_) | refine z_E (kk := ?_) | refine z_d (kk := ?_) | refine z_I (kk := fun _ => ?_) | refine z_J (kk := fun _ => ?_) | refine z_K (kk := fun _ => ?_) | refine z_L (kk := fun _ => ?_) | refine z_T (kk := ?_) | refine z_F (kk := ?_) | refine z_k (kk := fun _ _ _ _ _ => ?_) | refine z_w (kk := fun _ _ => ?_) | refine z_s (kk := fun _ _ _ _ => ?_) | refine z_g (kk := ?_) | refine z_h (kk := ?_)))
      exact W.fret rfl ⟨hb1, by simp only [TurnR]; rw [if_pos h60]; rfl⟩
    · have h60' : ¬ ((l.length : Int) = 60) := by omega
      (repeat (first | with_reducible refine W.seq ?_ | with_reducible refine Ops.nil ?_ | with_reducible refine W.region ?_ | refine z_p (kk := ?_) | refine z_a (kk := ?_) | refine z_y (kk := ?_) | refine z_n (kk := ?_) | refine z_u (kk := ?_) | with_reducible refine W.skip ?_ | with_reducible refine W.endb ?_ | with_reducible refine W.block ?_ | refine W.exit rfl ?_ | refine z_l (kk := ?_) | refine z_f (kk := ?_) | refine z_M (kk := ?_) | refine z_m (kk := ?_) | refine z_e (kk := ?_) | refine z_E (kk := ?_) | refine z_d (kk := ?_) | refine z_I (kk := fun _ => ?_) | refine z_J (kk := fun _ => ?_) | refine z_K (kk := fun _ => ?_) | refine z_L (kk := fun _ => ?_) | refine z_T (kk := ?_) | refine z_F (kk := ?_) | refine z_k (kk := fun _ _ _ _ _ => ?_) | refine z_w (kk := fun _ _ => ?_) | refine z_s (kk := fun _ _ _ _ => ?_) | refine z_g (kk := ?_) | refine z_h (kk := ?_)))
      refine W.condF rfl (by first | rfl | assumption | (simp only [bnf] <;> omega) | (simp only [*, bnf]; done) | fail) ?_
      (repeat (first | with_reducible refine W.seq ?_ | with_reducible refine Ops.nil ?_ | with_reducible refine W.region ?_ | refine z_p (kk := ?_) | refine z_a (kk := ?_) | refine z_y (kk := ?_) | refine z_n (kk := ?_) | refine z_u (kk := ?_) | with_reducible refine W.skip ?_ | with_reducible refine W.endb ?_ | with_reducible refine W.block ?_ | refine W.exit rfl ?_ | refine z_l (kk := ?_) | refine z_f (kk := ?_) | refine z_M (kk := ?_) | refine z_m (kk := ?_) | refine z_e (kk := ?_) | refine z_E (kk := ?_) | refine z_d (kk := ?_) | refine z_I (kk := fun _ => ?_) | refine z_J (kk := fun _ => ?_) | refine z_K (kk := fun _ => ?_) | refine z_L (kk := fun _ => ?_) | refine z_T (kk := ?_) | refine z_F (kk := ?_) | refine z_k (kk := fun _ _ _ _ _ => ?_) | refine z_w (kk := fun _ _ => ?_) | refine z_s (kk := fun _ _ _ _ => ?_) | refine z_g (kk := ?_) | refine z_h (kk := ?_)))
      refine Ops.bs1 rfl rfl rfl rfl rfl rfl rfl rfl rfl (fun w2 r2 hM2 => ?_)
      have hb2 : Below w.heap.size w w2 := Below.put hb1 hM2.kp (fun _ e => e.elim)
      have hk2 : SlI w2 (.slice (some ⟨r2, 0, none⟩) 1 1) [1] := own_sl (z := (0 : Int)) (xs := [1]) (own_one hM2)
      refine Ops.bldG (cs := #[.slice (some ⟨r2, 0, none⟩) 1 1, .int .i64 0]) rfl rfl rfl rfl rfl rfl (by kernel_rfl) ?_
      refine Ops.bsG (cs := #[.slice (some ⟨r2, 0, none⟩) 1 1, .int .i64 0]) rfl rfl rfl rfl rfl rfl rfl rfl rfl (by kernel_rfl) (fun w3 r3 hM3 => ?_)
      have hb3 : Below w.heap.size w w3 := Below.put hb2 hM3.kp (fun _ e => e.elim)
      have e2 := hM2.r_eq
      have e3 := hM3.r_eq
      have e4 := hM2.size
      have e5 := hb1.size
      have hTO3 : TO w w3 (.slice (some ⟨r3, 0, none⟩) 1 1) [([1], 0)] [.slice (some ⟨r2, 0, none⟩) 1 1] := by
        refine ⟨hb3, fun k hk => by simp [Value.ownBlock] at hk; omega, rfl, ⟨rfl, .inr ⟨r3, 1, _, rfl, Nat.zero_le _, hM3.at_, Nat.le_refl _, by simp [maxLen], rfl, rfl⟩⟩, fun j hj => ?_⟩
        have : j = 0 := by simp at hj; omega
        subst this
        refine ⟨Sl.kp hk2 hM3.kp (fun _ _ e => e), fun _ i hi => ?_⟩
        simp [Value.ownBlock] at hi ⊢
        omega
      (repeat (first | with_reducible refine W.seq ?_ | with_reducible refine Ops.nil ?_ | with_reducible refine W.region ?_ | refine z_p (kk := ?_) | refine z_a (kk := ?_) | refine z_y (kk := ?_) | refine z_n (kk := ?_) | refine z_u (kk := ?_) | with_reducible refine W.skip ?_ | with_reducible refine W.endb ?_ | with_reducible refine W.block ?_ | refine W.exit rfl ?_ | refine z_l (kk := ?_) | refine z_f (kk := ?_) | refine z_M (kk := ?_) | refine z_m (kk := ?_) | refine z_e (kk := ?_) | refine z_E (kk := ?_) | refine z_d (kk := ?_) | refine z_I (kk := fun _ => ?_) | refine z_J (kk := fun _ => ?_) | refine z_K (kk := fun _ => ?_) | refine z_L (kk := fun _ => ?_) | refine z_T (kk := ?_) | refine z_F (kk := ?_) | refine z_k (kk := fun _ _ _ _ _ => ?_) | refine z_w (kk := fun _ _ => ?_) | refine z_s (kk := fun _ _ _ _ => ?_) | refine z_g (kk := ?_) | refine z_h (kk := ?_)))
      refine W.loop (fun m ρ w4 => ∃ (i : Nat) (ov : Value) (cvs : List Value), m = l.length - i ∧ i ≤ l.length ∧ ρ = [(6, ov), (27, .slice At l.length ct), (28, .int .i64 l.length), (29, .int .i64 i)] ∧ TO w w4 ov (([1], 0) :: (l.take i).map fun x => (x.1.map (· + 1), -x.2)) cvs)
        ⟨_, _, ⟨0, _, _, rfl, Nat.zero_le _, rfl, hTO3⟩, (by repeat (first | exact trivial | refine And.intro rfl ?_))⟩ ?_
      clear hTO3 hk2
      rintro m ρ w4 ⟨i, ov, cvs, rfl, hi, rfl, hO⟩
      have hb4 := hO.bel
      (repeat (first | with_reducible refine W.seq ?_ | with_reducible refine Ops.nil ?_ | with_reducible refine W.region ?_ | refine z_p (kk := ?_) | refine z_a (kk := ?_) | refine z_y (kk := ?_) | refine z_n (kk := ?_) | refine z_u (kk := ?_) | with_reducible refine W.skip ?_ | with_reducible refine W.endb ?_ | with_reducible refine W.block ?_ | refine W.exit rfl ?_ | refine z_l (kk := ?_) | refine z_f (kk := ?_) | refine z_M (kk := ?_) | refine z_m (kk := ?_) | refine z_e (kk := ?_) | refine z_E (kk := ?_) | refine z_d (kk := ?_) | refine z_I (kk := fun _ => ?_) | refine z_J (kk := fun _ => ?_) | refine z_K (kk := fun _ => ?_) | refine z_L (kk := fun _ => ?_) | refine z_T (kk := ?_) | refine z_F (kk := ?_) | refine z_k (kk := fun _ _ _ _ _ => ?_) | refine z_w (kk := fun _ _ => ?_) | refine z_s (kk := fun _ _ _ _ => ?_) | refine z_g (kk := ?_) | refine z_h (kk := ?_)))
      (first | refine W.condD rfl (fun hc => ?_) (fun hc => ?_) | refine W.condE rfl (fun hc => ?_) (fun hc => ?_) | refine W.condN rfl (fun hc => ?_) (fun hc => ?_) | refine W.cond rfl (fun hc => ?_) (fun hc => ?_))
      · have hil : i < l.length := by omega
        have hkl := hTF.klen i hil
        have hkin := hTF.kin i
        have hwo := hTF.wor i hil
        (repeat (first | with_reducible refine W.seq ?_ | with_reducible refine Ops.nil ?_ | with_reducible refine W.region ?_ | refine z_p (kk := ?_) | refine z_a (kk := ?_) | refine z_y (kk := ?_) | refine z_n (kk := ?_) | refine z_u (kk := ?_) | with_reducible refine W.skip ?_ | with_reducible refine W.endb ?_ | with_reducible refine W.block ?_ | refine W.exit rfl ?_ | refine z_l (kk := ?_) | refine z_f (kk := ?_) | refine z_M (kk := ?_) | refine z_m (kk := ?_) | refine z_e (kk := ?_) | refine z_E (kk := ?_) | refine z_d (kk := ?_) | refine z_I (kk := fun _ => ?_) | refine z_J (kk := fun _ => ?_) | refine z_K (kk := fun _ => ?_) | refine z_L (kk := fun _ => ?_) | refine z_T (kk := ?_) | refine z_F (kk := ?_) | refine z_k (kk := fun _ _ _ _ _ => ?_) | refine z_w (kk := fun _ _ => ?_) | refine z_s (kk := fun _ _ _ _ => ?_) | refine z_g (kk := ?_) | refine z_h (kk := ?_)))
        refine Ops.alloc rfl rfl rfl rfl (fun w5 b8 hM5 => ?_)
        refine Ops.st2 rfl rfl rfl rfl rfl rfl rfl rfl hM5.at_ (fun w6 hu6 => ?_)
        have k6 := hM5.kp.trans hu6.kp
        have e5 := hM5.r_eq
        have hb46 : Below w4.heap.size w4 w6 := Below.put (Below.refl _ _) k6 (fun i hi => by rcases hi with hi | hi; exact hi.elim; omega)
        have hB8 := hu6.blk
        (repeat (first | with_reducible refine W.seq ?_ | with_reducible refine Ops.nil ?_ | with_reducible refine W.region ?_ | refine z_p (kk := ?_) | refine z_a (kk := ?_) | refine z_y (kk := ?_) | refine z_n (kk := ?_) | refine z_u (kk := ?_) | with_reducible refine W.skip ?_ | with_reducible refine W.endb ?_ | with_reducible refine W.block ?_ | refine W.exit rfl ?_ | refine z_l (kk := ?_) | refine z_f (kk := ?_) | refine z_M (kk := ?_) | refine z_m (kk := ?_) | refine z_e (kk := ?_) | refine z_E (kk := ?_) | refine z_d (kk := ?_) | refine z_I (kk := fun _ => ?_) | refine z_J (kk := fun _ => ?_) | refine z_K (kk := fun _ => ?_) | refine z_L (kk := fun _ => ?_) | refine z_T (kk := ?_) | refine z_F (kk := ?_) | refine z_k (kk := fun _ _ _ _ _ => ?_) | refine z_w (kk := fun _ _ => ?_) | refine z_s (kk := fun _ _ _ _ => ?_) | refine z_g (kk := ?_) | refine z_h (kk := ?_)))
        refine Ops.bldG (cs := #[.slice none 0 0, .int .i64 (0 - wor l i)]) rfl rfl rfl rfl rfl rfl (by kernel_rfl) ?_
        refine Ops.alloc rfl rfl rfl rfl (fun w7 b9 hM7 => ?_)
        refine Ops.st2 rfl rfl rfl rfl rfl rfl rfl rfl hM7.at_ (fun w8 hu8 => ?_)
        have k8 := hM7.kp.trans hu8.kp
        have e7 := hM7.r_eq
        have e6 := hM5.size
        have hsz := hu6.size
        have hb48 : Below w4.heap.size w4 w8 := Below.put hb46 k8 (fun i hi => by rcases hi with hi | hi; exact hi.elim; omega)
        have hB9 := hu8.blk
        have hB8' := Blk.kp hB8 k8 (fun hi => by rcases hi with hi | hi; exact hi; omega)
        have hb08 := Below.via hb4 hb48
        (repeat (first | with_reducible refine W.seq ?_ | with_reducible refine Ops.nil ?_ | with_reducible refine W.region ?_ | refine z_p (kk := ?_) | refine z_a (kk := ?_) | refine z_y (kk := ?_) | refine z_n (kk := ?_) | refine z_u (kk := ?_) | with_reducible refine W.skip ?_ | with_reducible refine W.endb ?_ | with_reducible refine W.block ?_ | refine W.exit rfl ?_ | refine z_l (kk := ?_) | refine z_f (kk := ?_) | refine z_M (kk := ?_) | refine z_m (kk := ?_) | refine z_e (kk := ?_) | refine z_E (kk := ?_) | refine z_d (kk := ?_) | refine z_I (kk := fun _ => ?_) | refine z_J (kk := fun _ => ?_) | refine z_K (kk := fun _ => ?_) | refine z_L (kk := fun _ => ?_) | refine z_T (kk := ?_) | refine z_F (kk := ?_) | refine z_k (kk := fun _ _ _ _ _ => ?_) | refine z_w (kk := fun _ _ => ?_) | refine z_s (kk := fun _ _ _ _ => ?_) | refine z_g (kk := ?_) | refine z_h (kk := ?_)))
        refine W.loop (fun m ρ w9 => ∃ (j : Nat) (lv : Value), m = (kid l i).length - j ∧ j ≤ (kid l i).length ∧ (∃ A c, ρ = [(6, ov), (9, .pointer (some ⟨b9, 0, none⟩)), (27, .slice At l.length ct), (28, .int .i64 l.length), (29, .int .i64 i), (38, .slice A (kid l i).length c), (39, .int .i64 (kid l i).length), (40, .int .i64 j)] ∧ SlI w (.slice A (kid l i).length c) (kid l i)) ∧ OI 3 (Value.int .i64) w4 w9 lv ((kid l i).take j |>.map (· + 1)) ∧ Blk w9 b9 #[lv, .int .i64 (0 - wor l i)] 47 ∧ lv.ownBlock ≠ some b9)
          ⟨_, _, ⟨0, _, rfl, Nat.zero_le _, ⟨_, _, rfl, by assumption⟩, OI.nil hb48, hB9, by simp [Value.ownBlock]⟩, (by repeat (first | exact trivial | refine And.intro rfl ?_))⟩ ?_
        rintro m ρ w9 ⟨j, lv, rfl, hj, ⟨Ak, ck, rfl, hks⟩, hL, hB, hne⟩
        have hb9 := Below.via hb4 hL.bel
        (repeat (first | with_reducible refine W.seq ?_ | with_reducible refine Ops.nil ?_ | with_reducible refine W.region ?_ | refine z_p (kk := ?_) | refine z_a (kk := ?_) | refine z_y (kk := ?_) | refine z_n (kk := ?_) | refine z_u (kk := ?_) | with_reducible refine W.skip ?_ | with_reducible refine W.endb ?_ | with_reducible refine W.block ?_ | refine W.exit rfl ?_ | refine z_l (kk := ?_) | refine z_f (kk := ?_) | refine z_M (kk := ?_) | refine z_m (kk := ?_) | refine z_e (kk := ?_) | refine z_E (kk := ?_) | refine z_d (kk := ?_) | refine z_I (kk := fun _ => ?_) | refine z_J (kk := fun _ => ?_) | refine z_K (kk := fun _ => ?_) | refine z_L (kk := fun _ => ?_) | refine z_T (kk := ?_) | refine z_F (kk := ?_) | refine z_k (kk := fun _ _ _ _ _ => ?_) | refine z_w (kk := fun _ _ => ?_) | refine z_s (kk := fun _ _ _ _ => ?_) | refine z_g (kk := ?_) | refine z_h (kk := ?_)))
        (first | refine W.condD rfl (fun hc => ?_) (fun hc => ?_) | refine W.condE rfl (fun hc => ?_) (fun hc => ?_) | refine W.condN rfl (fun hc => ?_) (fun hc => ?_) | refine W.cond rfl (fun hc => ?_) (fun hc => ?_))
        · have hjl : j < (kid l i).length := by omega
          have hkj := hkin j hil hjl
          simp only [Go.Proofs.Ytdiljpnfochndaa.HP.k_] at hkj
          have hb9lt := hB.lt
          (repeat (first | with_reducible refine W.seq ?_ | with_reducible refine Ops.nil ?_ | with_reducible refine W.region ?_ | refine z_p (kk := ?_) | refine z_a (kk := ?_) | refine z_y (kk := ?_) | refine z_n (kk := ?_) | refine z_u (kk := ?_) | with_reducible refine W.skip ?_ | with_reducible refine W.endb ?_ | with_reducible refine W.block ?_ | refine W.exit rfl ?_ | refine z_l (kk := ?_) | refine z_f (kk := ?_) | refine z_M (kk := ?_) | refine z_m (kk := ?_) | refine z_e (kk := ?_) | refine z_E (kk := ?_) | refine z_d (kk := ?_) | refine z_I (kk := fun _ => ?_) | refine z_J (kk := fun _ => ?_) | refine z_K (kk := fun _ => ?_) | refine z_L (kk := fun _ => ?_) | refine z_T (kk := ?_) | refine z_F (kk := ?_) | refine z_k (kk := fun _ _ _ _ _ => ?_) | refine z_w (kk := fun _ _ => ?_) | refine z_s (kk := fun _ _ _ _ => ?_) | refine z_g (kk := ?_) | refine z_h (kk := ?_)))
          refine Ops.pushO (enc := Value.int .i64) rfl rfl rfl rfl rfl rfl rfl rfl rfl rfl rfl rfl (fun _ => rfl) rfl hL (by simp; omega) (fun lv' _ w10 hL10 k10 hn10 => ?_)
          have hB10 := hB.kp k10 (fun e => hne e)
          (repeat (first | with_reducible refine W.seq ?_ | with_reducible refine Ops.nil ?_ | with_reducible refine W.region ?_ | refine z_p (kk := ?_) | refine z_a (kk := ?_) | refine z_y (kk := ?_) | refine z_n (kk := ?_) | refine z_u (kk := ?_) | with_reducible refine W.skip ?_ | with_reducible refine W.endb ?_ | with_reducible refine W.block ?_ | refine W.exit rfl ?_ | refine z_l (kk := ?_) | refine z_f (kk := ?_) | refine z_M (kk := ?_) | refine z_m (kk := ?_) | refine z_e (kk := ?_) | refine z_E (kk := ?_) | refine z_d (kk := ?_) | refine z_I (kk := fun _ => ?_) | refine z_J (kk := fun _ => ?_) | refine z_K (kk := fun _ => ?_) | refine z_L (kk := fun _ => ?_) | refine z_T (kk := ?_) | refine z_F (kk := ?_) | refine z_k (kk := fun _ _ _ _ _ => ?_) | refine z_w (kk := fun _ _ => ?_) | refine z_s (kk := fun _ _ _ _ => ?_) | refine z_g (kk := ?_) | refine z_h (kk := ?_)))
          have h1 : lv'.oneCell' = true := by obtain ⟨A, c, rfl⟩ := hL10.sh; rfl
          refine Ops.st rfl rfl rfl rfl rfl rfl h1 hB10 (by simp) (fun w11 hu11 => ?_)
          have hne2 : lv'.ownBlock ≠ some b9 := fun e => by
            rcases hn10 b9 e with h | h
            · exact hne h
            · omega
          have hL11 := hL10.kp hu11.kp (fun i hi => ⟨by omega, fun e => hne2 (by rw [e, hi])⟩)
          have hB11 := hu11.blk
          rw [← map_take_succ hjl] at hL11
          (repeat (first | with_reducible refine W.seq ?_ | with_reducible refine Ops.nil ?_ | with_reducible refine W.region ?_ | refine z_p (kk := ?_) | refine z_a (kk := ?_) | refine z_y (kk := ?_) | refine z_n (kk := ?_) | refine z_u (kk := ?_) | with_reducible refine W.skip ?_ | with_reducible refine W.endb ?_ | with_reducible refine W.block ?_ | refine W.exit rfl ?_ | refine z_l (kk := ?_) | refine z_f (kk := ?_) | refine z_M (kk := ?_) | refine z_m (kk := ?_) | refine z_e (kk := ?_) | refine z_E (kk := ?_) | refine z_d (kk := ?_) | refine z_I (kk := fun _ => ?_) | refine z_J (kk := fun _ => ?_) | refine z_K (kk := fun _ => ?_) | refine z_L (kk := fun _ => ?_) | refine z_T (kk := ?_) | refine z_F (kk := ?_) | refine z_k (kk := fun _ _ _ _ _ => ?_) | refine z_w (kk := fun _ _ => ?_) | refine z_s (kk := fun _ _ _ _ => ?_) | refine z_g (kk := ?_) | refine z_h (kk := ?_)))
          exact W.endl ⟨_, _, ⟨⟨j + 1, _, rfl, by omega, ⟨_, _, rfl, hks⟩, hL11, hB11, hne2⟩, by omega⟩, (by repeat (first | exact trivial | refine And.intro rfl ?_))⟩
        · have hjl : j = (kid l i).length := by omega
          subst hjl
          rw [List.take_length] at hL
          have hO9 := hO.below hL.bel
          have h1 : lv.oneCell' = true := by obtain ⟨A, c, rfl⟩ := hL.sh; rfl
          (repeat (first | with_reducible refine W.seq ?_ | with_reducible refine Ops.nil ?_ | with_reducible refine W.region ?_ | refine z_p (kk := ?_) | refine z_a (kk := ?_) | refine z_y (kk := ?_) | refine z_n (kk := ?_) | refine z_u (kk := ?_) | with_reducible refine W.skip ?_ | with_reducible refine W.endb ?_ | with_reducible refine W.block ?_ | refine W.exit rfl ?_ | refine z_l (kk := ?_) | refine z_f (kk := ?_) | refine z_M (kk := ?_) | refine z_m (kk := ?_) | refine z_e (kk := ?_) | refine z_E (kk := ?_) | refine z_d (kk := ?_) | refine z_I (kk := fun _ => ?_) | refine z_J (kk := fun _ => ?_) | refine z_K (kk := fun _ => ?_) | refine z_L (kk := fun _ => ?_) | refine z_T (kk := ?_) | refine z_F (kk := ?_) | refine z_k (kk := fun _ _ _ _ _ => ?_) | refine z_w (kk := fun _ _ => ?_) | refine z_s (kk := fun _ _ _ _ => ?_) | refine z_g (kk := ?_) | refine z_h (kk := ?_)))
          refine Ops.ld2 rfl rfl rfl rfl rfl rfl (hB.cell rfl) (by rw [add_lit]; exact hB.cell rfl) ?_
          refine Ops.push2 rfl rfl rfl rfl rfl rfl rfl rfl rfl rfl rfl (fun _ => rfl) h1 rfl hO9.row (by simp; omega) (fun lv' p w10 hrow k10 hn10 => ?_)
          have hO10 := hO9.push (hL.sl (z := (0 : Int))) (fun hp q hq e => by have := hL.ge q hq; have := (hO.row.lt q e).2; omega) hrow k10 hn10
          rw [List.cons_append, show (0 - wor l i) = - wor l i by omega, ← turn_take hil] at hO10
          (repeat (first | with_reducible refine W.seq ?_ | with_reducible refine Ops.nil ?_ | with_reducible refine W.region ?_ | refine z_p (kk := ?_) | refine z_a (kk := ?_) | refine z_y (kk := ?_) | refine z_n (kk := ?_) | refine z_u (kk := ?_) | with_reducible refine W.skip ?_ | with_reducible refine W.endb ?_ | with_reducible refine W.block ?_ | refine W.exit rfl ?_ | refine z_l (kk := ?_) | refine z_f (kk := ?_) | refine z_M (kk := ?_) | refine z_m (kk := ?_) | refine z_e (kk := ?_) | refine z_E (kk := ?_) | refine z_d (kk := ?_) | refine z_I (kk := fun _ => ?_) | refine z_J (kk := fun _ => ?_) | refine z_K (kk := fun _ => ?_) | refine z_L (kk := fun _ => ?_) | refine z_T (kk := ?_) | refine z_F (kk := ?_) | refine z_k (kk := fun _ _ _ _ _ => ?_) | refine z_w (kk := fun _ _ => ?_) | refine z_s (kk := fun _ _ _ _ => ?_) | refine z_g (kk := ?_) | refine z_h (kk := ?_)))
          exact W.endl ⟨_, _, ⟨⟨i + 1, _, _, rfl, by omega, rfl, hO10⟩, by omega⟩, (by repeat (first | exact trivial | refine And.intro rfl ?_))⟩
      · have hil : i = l.length := by omega
        subst hil
        rw [List.take_length] at hO
        (repeat (first | with_reducible refine W.seq ?_ | with_reducible refine Ops.nil ?_ | with_reducible refine W.region ?_ | refine z_p (kk := ?_) | refine z_a (kk := ?_) | refine z_y (kk := ?_) | refine z_n (kk := ?_) | refine z_u (kk := ?_) | with_reducible refine W.skip ?_ | with_reducible refine W.endb ?_ | with_reducible refine W.block ?_ | refine W.exit rfl ?_ | refine z_l (kk := ?_) | refine z_f (kk := ?_) | refine z_M (kk := ?_) | refine z_m (kk := ?_) | refine z_e (kk := ?_) | refine z_E (kk := ?_) | refine z_d (kk := ?_) | refine z_I (kk := fun _ => ?_) | refine z_J (kk := fun _ => ?_) | refine z_K (kk := fun _ => ?_) | refine z_L (kk := fun _ => ?_) | refine z_T (kk := ?_) | refine z_F (kk := ?_) | refine z_k (kk := fun _ _ _ _ _ => ?_) | refine z_w (kk := fun _ _ => ?_) | refine z_s (kk := fun _ _ _ _ => ?_) | refine z_g (kk := ?_) | refine z_h (kk := ?_)))
        exact W.fret rfl ⟨hb4, by simp only [TurnR]; rw [if_neg h60, hg]; exact ⟨ov, cvs, rfl, hO⟩⟩
set_option maxHeartbeats 4000000 in
theorem turnedLaw_c {w : World} {pv wv : Value} {ps ws : List Int} {b : Int} (hp : SlI w pv ps) (hw : SlI w wv ws) :
    Calls Try.prog 7 #[pv, wv, .int .i64 b] w (Ret fun r w' => r = .bool true ∧ Below w.heap.size w w') := by
  refine calls_W (vs := [_, _, _]) Try.func7 rfl (by kernel_rfl) rfl ?_
  (repeat (first | with_reducible refine W.seq ?_ | with_reducible refine Ops.nil ?_ | with_reducible refine W.region ?_ | refine z_p (kk := ?_) | refine z_a (kk := ?_) | refine z_y (kk := ?_) | refine z_n (kk := ?_) | refine z_u (kk := ?_) | with_reducible refine W.skip ?_ | with_reducible refine W.endb ?_ | with_reducible refine W.block ?_ | refine W.exit rfl ?_ | refine z_l (kk := ?_) | refine z_f (kk := ?_) | refine z_M (kk := ?_) | refine z_m (kk := ?_) | refine z_e (kk := ?_) | refine z_E (kk := ?_) | refine z_d (kk := ?_) | refine z_I (kk := fun _ => ?_) | refine z_J (kk := fun _ => ?_) | refine z_K (kk := fun _ => ?_) | refine z_L (kk := fun _ => ?_) | refine z_T (kk := ?_) | refine z_F (kk := ?_) | refine z_k (kk := fun _ _ _ _ _ => ?_) | refine z_w (kk := fun _ _ => ?_) | refine z_s (kk := fun _ _ _ _ => ?_) | refine z_g (kk := ?_) | refine z_h (kk := ?_)))
  refine Ops.call rfl rfl rfl rfl rfl (tame_c (most := 59) hp hw (by decide) (by decide)) (fun tv w1 hR => ?_)
  obtain ⟨hT1, hb1⟩ := hR
  have hTK := tame_TK (ps := ps) (ws := ws) (most := 59) (by decide) (by decide)
  have hl59 : (tameM ps ws 59).length ≤ 59 := by rw [Go.Proofs.Ytdiljpnfochndaa.HP.tameM_len]; unfold Go.Proofs.Ytdiljpnfochndaa.HP.rounds; omega
  generalize tameM ps ws 59 = l at *
  obtain ⟨dep, hg⟩ := hTK.game
  have hTF := gameOf_TF hg
  have hTK' := turn_TK hTK hl59
  obtain ⟨dep', hg'⟩ := hTK'.game
  have hTF' := gameOf_TF hg'
  have hn1 := hTF.n1
  have hmb := modM_bd b (n := 201) (by omega)
  (repeat (first | with_reducible refine W.seq ?_ | with_reducible refine Ops.nil ?_ | with_reducible refine W.region ?_ | refine z_p (kk := ?_) | refine z_a (kk := ?_) | refine z_y (kk := ?_) | refine z_n (kk := ?_) | refine z_u (kk := ?_) | with_reducible refine W.skip ?_ | with_reducible refine W.endb ?_ | with_reducible refine W.block ?_ | refine W.exit rfl ?_ | refine z_l (kk := ?_) | refine z_f (kk := ?_) | refine z_M (kk := ?_) | refine z_m (kk := ?_) | refine z_e (kk := ?_) | refine z_E (kk := ?_) | refine z_d (kk := ?_) | refine z_I (kk := fun _ => ?_) | refine z_J (kk := fun _ => ?_) | refine z_K (kk := fun _ => ?_) | refine z_L (kk := fun _ => ?_) | refine z_T (kk := ?_) | refine z_F (kk := ?_) | refine z_k (kk := fun _ _ _ _ _ => ?_) | refine z_w (kk := fun _ _ => ?_) | refine z_s (kk := fun _ _ _ _ => ?_) | refine z_g (kk := ?_) | refine z_h (kk := ?_)))
  refine Ops.callS rfl rfl rfl rfl rfl (mod_c _ _ _ (by decide) (by decide)) ?_
  generalize modM b 201 = b' at *
  obtain ⟨At, ct, rfl⟩ := hT1.sl
  (repeat (first | with_reducible refine W.seq ?_ | with_reducible refine Ops.nil ?_ | with_reducible refine W.region ?_ | refine z_p (kk := ?_) | refine z_a (kk := ?_) | refine z_y (kk := ?_) | refine z_n (kk := ?_) | refine z_u (kk := ?_) | with_reducible refine W.skip ?_ | with_reducible refine W.endb ?_ | with_reducible refine W.block ?_ | refine W.exit rfl ?_ | refine z_l (kk := ?_) | refine z_f (kk := ?_) | refine z_M (kk := ?_) | refine z_m (kk := ?_) | refine z_e (kk := ?_) | refine z_E (kk := ?_) | refine z_d (kk := ?_) | refine z_I (kk := fun _ => ?_) | refine z_J (kk := fun _ => ?_) | refine z_K (kk := fun _ => ?_) | refine z_L (kk := fun _ => ?_) | refine z_T (kk := ?_) | refine z_F (kk := ?_) | refine z_k (kk := fun _ _ _ _ _ => ?_) | refine z_w (kk := fun _ _ => ?_) | refine z_s (kk := fun _ _ _ _ => ?_) | refine z_g (kk := ?_) | refine z_h (kk := ?_)))
  refine Ops.call rfl rfl rfl rfl rfl (turned_c hT1 (by omega)) (fun r w2 hR => ?_)
  obtain ⟨hb2, hR⟩ := hR
  unfold TurnR at hR
  rw [if_neg (by omega), hg] at hR
  obtain ⟨ov, cvs, rfl, hO⟩ := hR
  have hb02 := Below.via hb1 hb2
  have hT2 := hT1.below hb2
  have hU2 := hO.treeM
  obtain ⟨Au, cu, rfl⟩ := hU2.sl
  have hul : (turnM l).length ≤ 60 := by rw [turn_len]; omega
  (repeat (first | with_reducible refine W.seq ?_ | with_reducible refine Ops.nil ?_ | with_reducible refine W.region ?_ | refine z_p (kk := ?_) | refine z_a (kk := ?_) | refine z_y (kk := ?_) | refine z_n (kk := ?_) | refine z_u (kk := ?_) | with_reducible refine W.skip ?_ | with_reducible refine W.endb ?_ | with_reducible refine W.block ?_ | refine W.exit rfl ?_ | refine z_l (kk := ?_) | refine z_f (kk := ?_) | refine z_M (kk := ?_) | refine z_m (kk := ?_) | refine z_e (kk := ?_) | refine z_E (kk := ?_) | refine z_d (kk := ?_) | refine z_I (kk := fun _ => ?_) | refine z_J (kk := fun _ => ?_) | refine z_K (kk := fun _ => ?_) | refine z_L (kk := fun _ => ?_) | refine z_T (kk := ?_) | refine z_F (kk := ?_) | refine z_k (kk := fun _ _ _ _ _ => ?_) | refine z_w (kk := fun _ _ => ?_) | refine z_s (kk := fun _ _ _ _ => ?_) | refine z_g (kk := ?_) | refine z_h (kk := ?_)))
  refine Ops.call rfl rfl rfl rfl rfl (value_c hT2 (by omega)) (fun r w3 hR => ?_)
  obtain ⟨hb3, hR⟩ := hR
  rw [hg] at hR
  obtain ⟨vs, hvs, rfl⟩ := hR
  have hb03 := Below.via hb02 hb3
  have hT3 := hT2.below hb3
  have hU3 := hU2.below hb3
  (repeat (first | with_reducible refine W.seq ?_ | with_reducible refine Ops.nil ?_ | with_reducible refine W.region ?_ | refine z_p (kk := ?_) | refine z_a (kk := ?_) | refine z_y (kk := ?_) | refine z_n (kk := ?_) | refine z_u (kk := ?_) | with_reducible refine W.skip ?_ | with_reducible refine W.endb ?_ | with_reducible refine W.block ?_ | refine W.exit rfl ?_ | refine z_l (kk := ?_) | refine z_f (kk := ?_) | refine z_M (kk := ?_) | refine z_m (kk := ?_) | refine z_e (kk := ?_) | refine z_E (kk := ?_) | refine z_d (kk := ?_) | refine z_I (kk := fun _ => ?_) | refine z_J (kk := fun _ => ?_) | refine z_K (kk := fun _ => ?_) | refine z_L (kk := fun _ => ?_) | refine z_T (kk := ?_) | refine z_F (kk := ?_) | refine z_k (kk := fun _ _ _ _ _ => ?_) | refine z_w (kk := fun _ _ => ?_) | refine z_s (kk := fun _ _ _ _ => ?_) | refine z_g (kk := ?_) | refine z_h (kk := ?_)))
  refine Ops.call rfl rfl rfl rfl rfl (value_c hU3 (by omega)) (fun r w4 hR => ?_)
  obtain ⟨hb4, hR⟩ := hR
  rw [hg'] at hR
  obtain ⟨us, hus, rfl⟩ := hR
  have hb04 := Below.via hb03 hb4
  have hT4 := hT3.below hb4
  have hU4 := hU3.below hb4
  have hval := Go.Proofs.Ytdiljpnfochndaa.HP.turn_val hTF hTF' hvs hus
  rw [hval]
  (repeat (first | with_reducible refine W.seq ?_ | with_reducible refine Ops.nil ?_ | with_reducible refine W.region ?_ | refine z_p (kk := ?_) | refine z_a (kk := ?_) | refine z_y (kk := ?_) | refine z_n (kk := ?_) | refine z_u (kk := ?_) | with_reducible refine W.skip ?_ | with_reducible refine W.endb ?_ | with_reducible refine W.block ?_ | refine W.exit rfl ?_ | refine z_l (kk := ?_) | refine z_f (kk := ?_) | refine z_M (kk := ?_) | refine z_m (kk := ?_) | refine z_e (kk := ?_) | refine z_E (kk := ?_) | refine z_d (kk := ?_) | refine z_I (kk := fun _ => ?_) | refine z_J (kk := fun _ => ?_) | refine z_K (kk := fun _ => ?_) | refine z_L (kk := fun _ => ?_) | refine z_T (kk := ?_) | refine z_F (kk := ?_) | refine z_k (kk := fun _ _ _ _ _ => ?_) | refine z_w (kk := fun _ _ => ?_) | refine z_s (kk := fun _ _ _ _ => ?_) | refine z_g (kk := ?_) | refine z_h (kk := ?_)))
  refine Ops.call rfl rfl rfl rfl rfl (refute_c (b := b' - 100) hT4 (by omega)) (fun r w5 hR => ?_)
  obtain ⟨hb5, hQ⟩ := hR
  have hb05 := Below.via hb04 hb5
  have hT5 := hT4.below hb5
  have hU5 := hU4.below hb5
  unfold ProvedR at hQ
  rw [if_pos (by omega), hg] at hQ
  obtain ⟨es, hE, hGE, hQ⟩ := hQ
  obtain ⟨qv, qe, qs, rfl, hqs, hqcase⟩ : ∃ qv qe qs, r = .tuple #[qv, .int .i64 qe] ∧ SlI w5 qv qs ∧ ((qe = 6 ∧ qs = [] ∧ ¬ (es.getD 0 (0, [])).1 < far) ∨ (qe = 0 ∧ qs = srt (es.getD 0 (0, [])).2 ∧ (es.getD 0 (0, [])).1 < far)) := by
    rcases hQ with ⟨h1, rfl⟩ | ⟨h1, v, rfl, h2⟩
    · exact ⟨_, _, [], rfl, Sl.nil _ _ _ _ _, .inl ⟨rfl, rfl, by omega⟩⟩
    · exact ⟨_, _, _, rfl, h2.sl, .inr ⟨rfl, rfl, h1⟩⟩
  clear hQ
  obtain ⟨Aq, cq, rfl⟩ := Sl.sl hqs
  (repeat (first | with_reducible refine W.seq ?_ | with_reducible refine Ops.nil ?_ | with_reducible refine W.region ?_ | refine z_p (kk := ?_) | refine z_a (kk := ?_) | refine z_y (kk := ?_) | refine z_n (kk := ?_) | refine z_u (kk := ?_) | with_reducible refine W.skip ?_ | with_reducible refine W.endb ?_ | with_reducible refine W.block ?_ | refine W.exit rfl ?_ | refine z_l (kk := ?_) | refine z_f (kk := ?_) | refine z_M (kk := ?_) | refine z_m (kk := ?_) | refine z_e (kk := ?_) | refine z_E (kk := ?_) | refine z_d (kk := ?_) | refine z_I (kk := fun _ => ?_) | refine z_J (kk := fun _ => ?_) | refine z_K (kk := fun _ => ?_) | refine z_L (kk := fun _ => ?_) | refine z_T (kk := ?_) | refine z_F (kk := ?_) | refine z_k (kk := fun _ _ _ _ _ => ?_) | refine z_w (kk := fun _ _ => ?_) | refine z_s (kk := fun _ _ _ _ => ?_) | refine z_g (kk := ?_) | refine z_h (kk := ?_)))
  refine Ops.call rfl rfl rfl rfl rfl (proof_c (b := 0 - (b' - 100)) hU5 (by omega)) (fun r w6 hR => ?_)
  obtain ⟨hb6, hP⟩ := hR
  have hb06 := Below.via hb05 hb6
  have hT6 := hT5.below hb6
  have hU6 := hU5.below hb6
  unfold ProvedR at hP
  rw [if_pos (by omega), hg'] at hP
  obtain ⟨fs, hF, hGF, hP⟩ := hP
  obtain ⟨pv', pe, qs', rfl, hps, hpcase⟩ : ∃ pv pe ps, r = .tuple #[pv, .int .i64 pe] ∧ SlI w6 pv ps ∧ ((pe = 6 ∧ ps = [] ∧ ¬ (fs.getD 0 (0, [])).1 < far) ∨ (pe = 0 ∧ ps = srt (fs.getD 0 (0, [])).2 ∧ (fs.getD 0 (0, [])).1 < far)) := by
    rcases hP with ⟨h1, rfl⟩ | ⟨h1, v, rfl, h2⟩
    · exact ⟨_, _, [], rfl, Sl.nil _ _ _ _ _, .inl ⟨rfl, rfl, by omega⟩⟩
    · exact ⟨_, _, _, rfl, h2.sl, .inr ⟨rfl, rfl, h1⟩⟩
  clear hP
  obtain ⟨Ap, cp, rfl⟩ := Sl.sl hps
  have hbd := (Go.Proofs.Ytdiljpnfochndaa.HP.need_small hTF hE (fun i _ => .inr (refuteF_3 i)) 0 (by omega)).2.hi
  obtain ⟨hn1', hn2⟩ := Go.Proofs.Ytdiljpnfochndaa.HP.turn_need hTF hTF' hE hF (fun i hi hl => by
    unfold proofF refuteF
    rw [Go.Proofs.Ytdiljpnfochndaa.HP.turn_wor l i hi]
    congr 1
    rw [decide_eq_decide]
    omega) hbd
  have hq1 := (refute_facts hTF hE hvs).1
  have hvb := Go.Proofs.Ytdiljpnfochndaa.HP.wor_bd hTF hvs
  have hlens : pe = qe ∧ qs.length = qs'.length ∧ (qe = 0 ∨ qe = 6) ∧ (qe = 0 ↔ vs.getD 0 0 ≤ b' - 100) := by
    rcases hqcase with ⟨e1, e2, e3⟩ | ⟨e1, e2, e3⟩
    · rcases hpcase with ⟨d1, d2, d3⟩ | ⟨d1, d2, d3⟩
      · subst e1 e2 d1 d2
        exact ⟨rfl, rfl, .inr rfl, by rw [← hq1]; exact ⟨fun h => by omega, fun h => absurd h e3⟩⟩
      · rw [hn1'] at d3; exact absurd d3 e3
    · rcases hpcase with ⟨d1, d2, d3⟩ | ⟨d1, d2, d3⟩
      · rw [hn1'] at d3; exact absurd e3 d3
      · have := hn2 e3
        subst e1 e2 d1 d2
        refine ⟨rfl, ?_, .inl rfl, by rw [← hq1]; exact ⟨fun _ => e3, fun _ => rfl⟩⟩
        rw [List.length_mergeSort, List.length_mergeSort]
        exact this.symm
  obtain ⟨g1, g2, g3, g4⟩ := hlens
  subst g1
  (repeat (first | with_reducible refine W.seq ?_ | with_reducible refine Ops.nil ?_ | with_reducible refine W.region ?_ | refine z_p (kk := ?_) | refine z_a (kk := ?_) | refine z_y (kk := ?_) | refine z_n (kk := ?_) | refine z_u (kk := ?_) | with_reducible refine W.skip ?_ | with_reducible refine W.endb ?_ | with_reducible refine W.block ?_ | refine W.exit rfl ?_ | refine z_l (kk := ?_) | refine z_f (kk := ?_) | refine z_M (kk := ?_) | refine z_m (kk := ?_) | refine z_e (kk := ?_) | refine z_E (kk := ?_) | refine z_d (kk := ?_) | refine z_I (kk := fun _ => ?_) | refine z_J (kk := fun _ => ?_) | refine z_K (kk := fun _ => ?_) | refine z_L (kk := fun _ => ?_) | refine z_T (kk := ?_) | refine z_F (kk := ?_) | refine z_k (kk := fun _ _ _ _ _ => ?_) | refine z_w (kk := fun _ _ => ?_) | refine z_s (kk := fun _ _ _ _ => ?_) | refine z_g (kk := ?_) | refine z_h (kk := ?_)))
  refine Ops.call rfl rfl rfl rfl rfl (search_c hT6 (by omega)) (fun r w7 hR => ?_)
  obtain ⟨hb7, hS⟩ := hR
  have hb07 := Below.via hb06 hb7
  have hU7 := hU6.below hb7
  unfold SearchR at hS
  rw [hg] at hS
  obtain ⟨sv, rfl, hS⟩ := hS
  have hsl7 := hS.sl
  obtain ⟨As, cs, rfl⟩ := Sl.sl hsl7
  (repeat (first | with_reducible refine W.seq ?_ | with_reducible refine Ops.nil ?_ | with_reducible refine W.region ?_ | refine z_p (kk := ?_) | refine z_a (kk := ?_) | refine z_y (kk := ?_) | refine z_n (kk := ?_) | refine z_u (kk := ?_) | with_reducible refine W.skip ?_ | with_reducible refine W.endb ?_ | with_reducible refine W.block ?_ | refine W.exit rfl ?_ | refine z_l (kk := ?_) | refine z_f (kk := ?_) | refine z_M (kk := ?_) | refine z_m (kk := ?_) | refine z_e (kk := ?_) | refine z_E (kk := ?_) | refine z_d (kk := ?_) | refine z_I (kk := fun _ => ?_) | refine z_J (kk := fun _ => ?_) | refine z_K (kk := fun _ => ?_) | refine z_L (kk := fun _ => ?_) | refine z_T (kk := ?_) | refine z_F (kk := ?_) | refine z_k (kk := fun _ _ _ _ _ => ?_) | refine z_w (kk := fun _ _ => ?_) | refine z_s (kk := fun _ _ _ _ => ?_) | refine z_g (kk := ?_) | refine z_h (kk := ?_)))
  refine Ops.call rfl rfl rfl rfl rfl (search_c hU7 (by omega)) (fun r w8 hR => ?_)
  obtain ⟨hb8, hS'⟩ := hR
  have hb08 := Below.via hb07 hb8
  unfold SearchR at hS'
  rw [hg'] at hS'
  obtain ⟨sv', rfl, hS'⟩ := hS'
  have hsl8 := hS'.sl
  obtain ⟨As', cs', rfl⟩ := Sl.sl hsl8
  have hse := Go.Proofs.Ytdiljpnfochndaa.HP.turn_search hTF hTF'
  rw [hse]
  generalize vs.getD 0 0 = v at *
  generalize (srS l dep l.length 0 (-far) far).2.length = q at *
  have hv1 : -v = 0 - v := by omega
  rw [hv1]
  have hdd : (pe == 0) = decide (v ≤ b' - 100) := by rw [show (pe == 0) = decide (pe = 0) from rfl, decide_eq_decide]; exact g4
  (repeat (first | with_reducible refine W.seq ?_ | with_reducible refine Ops.nil ?_ | with_reducible refine W.region ?_ | refine z_p (kk := ?_) | refine z_a (kk := ?_) | refine z_y (kk := ?_) | refine z_n (kk := ?_) | refine z_u (kk := ?_) | with_reducible refine W.skip ?_ | with_reducible refine W.endb ?_ | with_reducible refine W.block ?_ | refine W.exit rfl ?_ | refine z_l (kk := ?_) | refine z_f (kk := ?_) | refine z_M (kk := ?_) | refine z_m (kk := ?_) | refine z_e (kk := ?_) | refine z_E (kk := ?_) | refine z_d (kk := ?_) | refine z_I (kk := fun _ => ?_) | refine z_J (kk := fun _ => ?_) | refine z_K (kk := fun _ => ?_) | refine z_L (kk := fun _ => ?_) | refine z_T (kk := ?_) | refine z_F (kk := ?_) | refine z_k (kk := fun _ _ _ _ _ => ?_) | refine z_w (kk := fun _ _ => ?_) | refine z_s (kk := fun _ _ _ _ => ?_) | refine z_g (kk := ?_) | refine z_h (kk := ?_)))
  rw [hdd]
  (repeat (first | with_reducible refine W.seq ?_ | with_reducible refine Ops.nil ?_ | with_reducible refine W.region ?_ | refine z_p (kk := ?_) | refine z_a (kk := ?_) | refine z_y (kk := ?_) | refine z_n (kk := ?_) | refine z_u (kk := ?_) | with_reducible refine W.skip ?_ | with_reducible refine W.endb ?_ | with_reducible refine W.block ?_ | refine W.exit rfl ?_ | refine z_l (kk := ?_) | refine z_f (kk := ?_) | refine z_M (kk := ?_) | refine z_m (kk := ?_) | refine z_e (kk := ?_) | refine z_E (kk := ?_) | refine z_d (kk := ?_) | refine z_I (kk := fun _ => ?_) | refine z_J (kk := fun _ => ?_) | refine z_K (kk := fun _ => ?_) | refine z_L (kk := fun _ => ?_) | refine z_T (kk := ?_) | refine z_F (kk := ?_) | refine z_k (kk := fun _ _ _ _ _ => ?_) | refine z_w (kk := fun _ _ => ?_) | refine z_s (kk := fun _ _ _ _ => ?_) | refine z_g (kk := ?_) | refine z_h (kk := ?_)))
  refine Ops.call rfl rfl rfl rfl rfl (awake_c _) (fun r w9 hR => ?_)
  obtain ⟨rfl, hb9⟩ := hR
  (repeat (first | with_reducible refine W.seq ?_ | with_reducible refine Ops.nil ?_ | with_reducible refine W.region ?_ | refine z_p (kk := ?_) | refine z_a (kk := ?_) | refine z_y (kk := ?_) | refine z_n (kk := ?_) | refine z_u (kk := ?_) | with_reducible refine W.skip ?_ | with_reducible refine W.endb ?_ | with_reducible refine W.block ?_ | refine W.exit rfl ?_ | refine z_l (kk := ?_) | refine z_f (kk := ?_) | refine z_M (kk := ?_) | refine z_m (kk := ?_) | refine z_e (kk := ?_) | refine z_E (kk := ?_) | refine z_d (kk := ?_) | refine z_I (kk := fun _ => ?_) | refine z_J (kk := fun _ => ?_) | refine z_K (kk := fun _ => ?_) | refine z_L (kk := fun _ => ?_) | refine z_T (kk := ?_) | refine z_F (kk := ?_) | refine z_k (kk := fun _ _ _ _ _ => ?_) | refine z_w (kk := fun _ _ => ?_) | refine z_s (kk := fun _ _ _ _ => ?_) | refine z_g (kk := ?_) | refine z_h (kk := ?_)))
  exact W.fret rfl ⟨rfl, Below.via hb08 hb9⟩
end Go.Proofs.Ytdiljpnfochndaa
