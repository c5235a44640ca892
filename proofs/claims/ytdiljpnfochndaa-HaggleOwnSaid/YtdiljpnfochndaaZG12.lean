/- A part of the walk: what this seat's statements share. -/
import Derived.Test.YtdiljpnfochndaaZG10
import Derived.Test.YtdiljpnfochndaaZG9
import Derived.Test.YtdiljpnfochndaaZG11
import Derived.Test.YtdiljpnfochndaaZG5
import Derived.Test.YtdiljpnfochndaaZG6
import Derived.Test.YtdiljpnfochndaaZG2
import Derived.Test.YtdiljpnfochndaaZG7
import Derived.ChangeSlices
import Derived.ChangeArms
set_option linter.unusedVariables false
set_option linter.unusedSimpArgs false
set_option linter.unusedSectionVars false
namespace Go.Proofs.Ytdiljpnfochndaa
open Go Go.RowKit Go.Proofs.Ytdiljpnfochndaa.VW
open Go.Proofs.Ytdiljpnfochndaa.HP (Nd kid wor leafB rd evB sg gameOf gameOf_TF TF TK ValP k_ tameM tame_TK SS subT subO SS_ord PlanS turnM turn_len)
attribute [local irreducible] W Ops OrdA VW.Ord OrdX
theorem sortM_le {l : List Nd} {dep : List Int} (hT : TF l dep) (vs : List Int) : (sortM l dep vs).length ≤ l.length := by
  have hn1 := hT.n1
  unfold sortM
  rw [show (0 : Int) = ((0 : Nat) : Int) from rfl, Go.Proofs.Ytdiljpnfochndaa.HP.subT_len]
  exact Go.Proofs.Ytdiljpnfochndaa.HP.subO_len (Go.Proofs.Ytdiljpnfochndaa.HP.SS_ord l dep vs) hT l.length 0 (by omega)
theorem TreeC.argT {w : World} {v : Value} {l : List Nd} (h : TreeC w v l) (hl : l.length ≤ 9223372036854775807) : ArgT w v l := by
  refine ⟨h.treeM, hl, fun i h0 hi => ?_⟩
  obtain ⟨g, c, cvs, e, h1, h2⟩ := h
  obtain ⟨m, rfl⟩ := Int.eq_ofNat_of_zero_le h0
  obtain ⟨hs, A, c', e2, hc⟩ := h2 m (by omega)
  have hk : kid l (m : Int) = (l.getD m ([], 0)).1 := by simp [Go.Proofs.Ytdiljpnfochndaa.HP.kid]
  have hw : wor l (m : Int) = (l.getD m ([], 0)).2 := by simp [Go.Proofs.Ytdiljpnfochndaa.HP.wor]
  rw [hk, hw]
  refine ⟨⟨g, 0, none⟩, c, A, c', e, by rw [← e2]; exact hs, hc, fun w' hb => ?_⟩
  have kk := Kp.of_below (S := fun _ => False) hb
  obtain ⟨q1, q2⟩ := h1 m (by omega)
  rw [add_lit, add_lit, Nat.zero_add, Int.toNat_natCast, ← e2]
  exact ⟨cell_kp kk q1 (fun e => e), cell_kp kk q2 (fun e => e)⟩
theorem flat_one : ∀ (cs : List Value) (xs : List Nd), (∀ j, j < cs.length → (cs.getD j undef).oneCell' = true) → ∀ u ∈ flat cs xs, u.oneCell' = true
  | [], xs, _, u, hu => by simp [flat] at hu
  | a :: cs, [], _, u, hu => by simp [flat] at hu
  | a :: cs, y :: xs, h, u, hu => by
    simp only [flat, List.mem_cons] at hu
    rcases hu with rfl | rfl | hu
    · exact h 0 (by simp)
    · rfl
    · exact flat_one cs xs (fun j hj => h (j + 1) (by simpa using hj)) u hu
theorem TQ.one {B : Nat} {w : World} {ov : Value} {tr : List Nd} {cvs : List Value} (h : TQ B w ov tr cvs) : ∀ u ∈ flat cvs tr, u.oneCell' = true :=
  flat_one cvs tr fun j hj => by
    obtain ⟨A, c, e⟩ := own_sl' (h.own j (by rw [← h.len]; exact hj))
    rw [e]; rfl
theorem treeM_self {l : List Nd} {dep : List Int} (hT : TF l dep) : treeM l = l := by
  have hn := hT.n60
  unfold treeM
  rw [List.take_of_length_le (by omega)]
  refine List.ext_getElem (by simp) fun i h1 h2 => ?_
  rw [List.getElem_map]
  have hk := hT.klen i h2
  have e : kid l (i : Int) = l[i].1 := by simp [Go.Proofs.Ytdiljpnfochndaa.HP.kid, List.getD_eq_getElem?_getD, h2]
  rw [e] at hk
  rw [List.take_of_length_le (by omega)]
set_option maxHeartbeats 8000000 in
theorem ownLaw_c {w : World} {pv wv qv : Value} {ps ws qs : List Int} (hp : SlI w pv ps) (hw : SlI w wv ws) (hq : SlI w qv qs) :
    Calls Try.prog 16 #[pv, wv, qv] w (Ret fun r w' => r = .bool true ∧ Below w.heap.size w w') := by
  obtain ⟨Aq, cq, rfl⟩ := Sl.sl hq
  refine calls_W (vs := [_, _, _]) Try.func16 rfl (by kernel_rfl) rfl ?_
  (repeat (first | with_reducible refine W.seq ?_ | with_reducible refine Ops.nil ?_ | with_reducible refine W.region ?_ | refine z_p (kk := ?_)))
  refine Ops.call rfl rfl rfl rfl rfl (tameA_c (most := 59) hp hw (by decide) (by decide)) (fun tv w1 hR => ?_)
  obtain ⟨hC1, hb1⟩ := hR
  have hTK := tame_TK (ps := ps) (ws := ws) (most := 59) (by decide) (by decide)
  have hl59 : (tameM ps ws 59).length ≤ 59 := by rw [Go.Proofs.Ytdiljpnfochndaa.HP.tameM_len]; unfold Go.Proofs.Ytdiljpnfochndaa.HP.rounds; omega
  generalize tameM ps ws 59 = l at *
  obtain ⟨dep, hg⟩ := hTK.game
  have hTF := gameOf_TF hg
  have hn1 := hTF.n1
  have hA1 := hC1.argT (by omega)
  have hT1 := hC1.treeM
  have hq1 := Sl.below hq hb1
  clear hp hw hq hTK hC1
  obtain ⟨At, ct, rfl⟩ := hT1.sl
  (repeat (first | with_reducible refine W.seq ?_ | with_reducible refine Ops.nil ?_ | with_reducible refine W.region ?_ | refine z_p (kk := ?_)))
  refine Ops.call rfl rfl rfl rfl rfl (tree_c hA1) (fun cv w2 hR => ?_)
  obtain ⟨hb2, hK2⟩ := hR
  rw [treeM_self hTF] at hK2
  have hb02 := Below.via hb1 hb2
  have hT2 := hT1.below hb2
  have hq2 := Sl.below hq1 hb2
  obtain ⟨Ak, ck, rfl⟩ := hK2.sl
  clear hA1 hT1 hq1
  (repeat (first | with_reducible refine W.seq ?_ | with_reducible refine Ops.nil ?_ | with_reducible refine W.region ?_ | refine z_p (kk := ?_)))
  refine Ops.call rfl rfl rfl rfl rfl (some_c hT2 (by omega) hq2) (fun sv w3 hI3 => ?_)
  have hb3 := hI3.bel
  have hb03 := Below.via hb02 hb3
  have hT3 := hT2.below hb3
  have hK3 := hK2.below hb3
  have hsl := pickL_len (someP l qs) l.length
  generalize pickL (someP l qs) l.length = S at *
  have hs3 : SlI w3 sv S := own_sl hI3.own
  obtain ⟨As, cs, rfl⟩ := Sl.sl hs3
  have hcap : S.length ≤ cs := own_cap hI3.own
  clear hI3 hT2 hK2 hq2
  (repeat (first | with_reducible refine W.seq ?_ | with_reducible refine Ops.nil ?_ | with_reducible refine W.region ?_ | refine z_p (kk := ?_)))
  refine Ops.call rfl rfl rfl rfl rfl (list_c ⟨hs3, As, cs, rfl, hcap⟩) (fun kv w4 hI4 => ?_)
  have hb4 := hI4.bel
  have hb04 := Below.via hb03 hb4
  have hT4 := hT3.below hb4
  have hK4 := hK3.below hb4
  have hs4 := Sl.below hs3 hb4
  rw [List.take_of_length_le (by omega)] at hI4
  have hkv4 : SlI w4 kv S := hI4.sl
  obtain ⟨Av, cv, rfl⟩ := Sl.sl hkv4
  clear hI4 hT3 hK3 hs3
  (repeat (first | with_reducible refine W.seq ?_ | with_reducible refine Ops.nil ?_ | with_reducible refine W.region ?_ | refine z_p (kk := ?_)))
  refine Ops.call rfl rfl rfl rfl rfl (decides_c hT4 (by omega) hs4) (fun r5 w5 hR => ?_)
  have hb5 := hR.1
  have hb05 := Below.via hb04 hb5
  have hT5 := hT4.below hb5
  have hs5 := Sl.below hs4 hb5
  clear hR hT4
  (repeat (first | with_reducible refine W.seq ?_ | with_reducible refine Ops.nil ?_ | with_reducible refine W.region ?_ | refine z_p (kk := ?_)))
  refine Ops.call rfl rfl rfl rfl rfl (numbers_c hT5 (by omega) hs5) (fun r6 w6 hR => ?_)
  have hb6 := hR.1
  have hb06 := Below.via hb05 hb6
  have hT6 := hT5.below hb6
  have hK6 := hK4.below (Below.via hb5 hb6)
  have hs6 := Sl.below hs5 hb6
  have hkv6 := Sl.below hkv4 (Below.via hb5 hb6)
  clear hR hT5 hK4 hs4 hs5 hkv4
  (repeat (first | with_reducible refine W.seq ?_ | with_reducible refine Ops.nil ?_ | with_reducible refine W.region ?_ | refine z_p (kk := ?_)))
  refine Ops.call rfl rfl rfl rfl rfl (sorted_c hT6 (by omega)) (fun r w7 hR => ?_)
  obtain ⟨hb7, hR⟩ := hR
  unfold SortR at hR
  rw [hg] at hR
  obtain ⟨vs, av, cva, hvs, rfl, hQa⟩ := hR
  have hal := sortM_le hTF vs
  have hT7 := hT6.below hb7
  have hal1 : ∀ k, outB av cva k → k < w7.heap.size := fun k hk => (hQa.lt hk).2
  (repeat (first | with_reducible refine W.seq ?_ | with_reducible refine Ops.nil ?_ | with_reducible refine W.region ?_ | refine z_p (kk := ?_)))
  refine Ops.call rfl rfl rfl rfl rfl (turnedQ_c hT7 (by omega)) (fun r w8 hR => ?_)
  obtain ⟨hb8, hR⟩ := hR
  unfold TurnQ at hR
  rw [if_neg (by omega), hg] at hR
  obtain ⟨bv, cvb, rfl, hQb⟩ := hR
  have hb68 := Below.via hb7 hb8
  have hT8 := hT6.below hb68
  have hbl1 : ∀ k, outB bv cvb k → w7.heap.size ≤ k ∧ k < w8.heap.size := fun k hk => hQb.lt hk
  have htl := turn_len l
  (repeat (first | with_reducible refine W.seq ?_ | with_reducible refine Ops.nil ?_ | with_reducible refine W.region ?_ | refine z_p (kk := ?_)))
  refine Ops.call rfl rfl rfl rfl rfl (planF_c hT8 (by omega)) (fun r w9 hR => ?_)
  obtain ⟨hb9, hR⟩ := hR
  rw [hg] at hR
  obtain ⟨vs2, pv, f, out, hvs2, hP, rfl, hI9⟩ := hR
  obtain rfl := hvs2.uniq hTF hvs
  have hol : out.length = l.length := hP.len
  have hb69 := Below.via hb68 hb9
  have hT9 := hT6.below hb69
  have hp9 : SlI w9 pv out := hI9.sl
  have hpb : ∀ k, pv.ownBlock = some k → w8.heap.size ≤ k ∧ k < w9.heap.size := fun k hk => ⟨hI9.ge k hk, (hI9.own.lt k hk).2⟩
  obtain ⟨bsF, hbs⟩ := RP.ex hTF (rd out)
  obtain ⟨Ap, cp, rfl⟩ := hI9.sh
  have hI9' := hI9.up hb68
  clear hI9
  (repeat (first | with_reducible refine W.seq ?_ | with_reducible refine Ops.nil ?_ | with_reducible refine W.region ?_ | refine z_p (kk := ?_)))
  refine Ops.call rfl rfl rfl rfl rfl (check_c (bsF := bsF) hT9 (by omega) hp9 (by omega) (fun d e => by rw [hg] at e; cases e; exact hbs)) (fun r10 w10 hR => ?_)
  have hb10 := hR.1
  have hb610 := Below.via hb69 hb10
  have hT10 := hT6.below hb610
  have hK10 := hK6.below hb610
  clear hR hT7 hT8 hT9
  (repeat (first | with_reducible refine W.seq ?_ | with_reducible refine Ops.nil ?_ | with_reducible refine W.region ?_ | refine z_p (kk := ?_) | refine z_y (kk := ?_)))
  refine Ops.call rfl rfl rfl rfl rfl (trees_c hT10 hK10 (by omega)) (fun r w11 hR => ?_)
  obtain ⟨rfl, hb11⟩ := hR
  have hb611 := Below.via hb610 hb11
  (repeat (first | refine z_p (kk := ?_) | refine z_y (kk := ?_)))
  refine Ops.call rfl rfl rfl rfl rfl (ints_c (Sl.below hs6 hb611) (Sl.below hkv6 hb611)) (fun r w12 hR => ?_)
  obtain ⟨rfl, hb12⟩ := hR
  have hb612 := Below.via hb611 hb12
  have hK12 := hK6.below hb612
  rw [decide_eq_true rfl]
  (repeat (first | refine z_p (kk := ?_) | refine z_y (kk := ?_)))
  refine Ops.call rfl rfl rfl rfl rfl (refPlan_c hK12 hTF) (fun r w13 hR => ?_)
  obtain ⟨vs3, f3, out3, hvs3, hP3, hI13⟩ := hR
  obtain rfl := hvs3.uniq hTF hvs
  obtain rfl := Go.Proofs.Ytdiljpnfochndaa.HP.PlanS.uniq hTF hP3 hP
  have hb13 := hI13.bel
  have hb913 := Below.via hb10 (Below.via hb11 (Below.via hb12 hb13))
  (repeat (first | refine z_y (kk := ?_)))
  refine Ops.call rfl rfl rfl rfl rfl (ints_c (Sl.below hp9 hb913) hI13.sl) (fun r w14 hR => ?_)
  obtain ⟨rfl, hb14⟩ := hR
  rw [decide_eq_true rfl]
  have hb914 := Below.via hb913 hb14
  have hb614 := Below.via hb69 hb914
  have hQa14 := hQa.below (Below.via hb8 (Below.via hb9 hb914))
  have hQb14 := hQb.below (Below.via hb9 hb914)
  have hp14 := hI9'.below hb914
  clear hQa hQb hI9' hI13 hp9 hT10 hK10 hK12 hb10 hb11 hb12 hb13 hb14 hb610 hb611 hb612 hb913
  obtain ⟨Aa, ca, rfl⟩ := hQa14.sh
  obtain ⟨gb, cb, hbe, hbc⟩ := own_at hQb14.row (by omega)
  subst hbe
  (repeat (first | with_reducible refine Ops.nil ?_ | refine z_p (kk := ?_) | refine z_y (kk := ?_)))
  refine W.condF rfl (by first | rfl | assumption | (simp only [bnf] <;> omega) | (simp only [*, bnf]; done) | fail) ?_
  (repeat (first | with_reducible refine W.seq ?_ | with_reducible refine W.region ?_ | refine z_p (kk := ?_) | with_reducible refine W.skip ?_))
  have hs9 := hb9.size
  have hs914 := hb914.size
  have hs8 := hb8.size
  have hs7 := hb7.size
  refine Ops.app (sz := 1) (news := flat cvb (turnM l)) (m := (turnM l).length) (A := ⟨gb, 0, none⟩) (c := cb) rfl rfl rfl rfl rfl rfl rfl rfl rfl rfl hQa14.row (flat_len _ _ hQb14.len) (fun j u hu => ?_) hQb14.one (by omega) (fun v15 w15 ho15 k15 hn15 => ?_)
  · have hj : j < (flat cvb (turnM l)).length := by
      rcases Nat.lt_or_ge j (flat cvb (turnM l)).length with h | h
      · exact h
      · rw [List.getElem?_eq_none h] at hu; cases hu
    rw [flat_len _ _ hQb14.len] at hj
    rw [add_lit, Nat.zero_add, hbc j (by omega), List.getD_eq_getElem?_getD, hu]
    rfl
  have hQ15 := hQa14.app hQb14 (by omega) (by omega) (fun k hk hk2 => by have := hbl1 k hk; have := hal1 k hk2; omega) ho15 k15 hn15
  have hb615 : Below w6.heap.size w6 w15 := Below.put hb614 k15 (fun k hk => hQa14.ge k hk)
  have hpd : ∀ k, (Value.slice Ap out3.length cp).ownBlock = some k → ¬ outB v15 (cva ++ cvb) k := fun k hk hk2 => by
    have h1 := hpb k hk
    rcases hk2 with e | ⟨j, hj, e⟩
    · rcases hn15 k e with e2 | e2
      · have := hal1 k (.inl e2); omega
      · omega
    · rw [List.length_append] at hj
      by_cases hja : j < cva.length
      · rw [vgl hja] at e
        have := hal1 k (.inr ⟨j, hja, e⟩); omega
      · rw [vgr (by omega)] at e
        have := hbl1 k (.inr ⟨_, by omega, e⟩); omega
  have hp15 : OI 3 (Value.int .i64) w6 w15 (.slice Ap out3.length cp) out3 := hp14.kp k15 (fun k hk => ⟨hQa14.ge k hk, fun e => by
    have h1 := hpb k e
    have := hal1 k (.inl hk); omega⟩)
  have hNl : (sortM l dep vs3 ++ turnM l).length ≤ 119 := by rw [List.length_append]; omega
  have hcl : (cva ++ cvb).length = (sortM l dep vs3 ++ turnM l).length := hQ15.len
  generalize sortM l dep vs3 ++ turnM l = tr15 at *
  generalize cva ++ cvb = cvs at *
  obtain ⟨A15, c15, rfl⟩ := hQ15.sh
  clear hQa14 hQb14 ho15 k15 hn15 hp14 hbc hal1 hbl1
  (repeat (first | with_reducible refine W.seq ?_ | with_reducible refine Ops.nil ?_ | with_reducible refine W.region ?_ | refine z_p (kk := ?_) | with_reducible refine W.block ?_))
  refine W.loop (fun m ρ w16 => ∃ (i : Nat) (tr : List Nd), m = tr15.length - i ∧ i ≤ tr15.length ∧ tr.length = tr15.length ∧ ρ = [(7, .slice At l.length ct), (8, .slice Ak l.length ck), (15, .slice Ap out3.length cp), (17, .slice A15 tr15.length c15), (18, .int .i64 i)] ∧ Below w6.heap.size w6 w16 ∧ TQ w6.heap.size w16 (.slice A15 tr15.length c15) tr cvs ∧ OI 3 (Value.int .i64) w6 w16 (.slice Ap out3.length cp) out3)
    ⟨_, _, ⟨0, tr15, rfl, Nat.zero_le _, rfl, rfl, hb615, hQ15, hp15⟩, (by repeat (first | exact trivial | refine And.intro rfl ?_))⟩ ?_
  clear hQ15 hp15 hb615 hb614
  rintro m ρ w16 ⟨i, tr, rfl, hi, htr, rfl, hb16, hQ16, hp16⟩
  (repeat (first | with_reducible refine W.seq ?_ | with_reducible refine Ops.nil ?_ | with_reducible refine W.region ?_ | refine z_p (kk := ?_) | refine z_l (kk := ?_)))
  (first | refine W.condD rfl (fun hc => ?_) (fun hc => ?_) | refine W.condE rfl (fun hc => ?_) (fun hc => ?_) | refine W.condN rfl (fun hc => ?_) (fun hc => ?_) | refine W.cond rfl (fun hc => ?_) (fun hc => ?_))
  · have hil : i < tr15.length := by omega
    (repeat (first | with_reducible refine W.seq ?_ | with_reducible refine Ops.nil ?_ | with_reducible refine W.region ?_ | refine z_p (kk := ?_) | with_reducible refine W.skip ?_ | with_reducible refine W.block ?_))
    refine W.loop (fun m ρ w17 => ∃ (k : Nat) (tr' : List Nd), m = (kid tr i).length - k ∧ tr'.length = tr15.length ∧ (kid tr' i).length = (kid tr i).length ∧ k ≤ (kid tr i).length ∧ ρ = [(7, .slice At l.length ct), (8, .slice Ak l.length ck), (15, .slice Ap out3.length cp), (17, .slice A15 tr15.length c15), (18, .int .i64 i), (19, .int .i64 k)] ∧ Below w6.heap.size w6 w17 ∧ TQ w6.heap.size w17 (.slice A15 tr15.length c15) tr' cvs ∧ OI 3 (Value.int .i64) w6 w17 (.slice Ap out3.length cp) out3)
      ⟨_, _, ⟨0, tr, rfl, htr, rfl, Nat.zero_le _, rfl, hb16, hQ16, hp16⟩, (by repeat (first | exact trivial | refine And.intro rfl ?_))⟩ ?_
    rintro m ρ w17 ⟨k, tr', rfl, htr', hkl, hk, rfl, hb17, hQ17, hp17⟩
    have hTM := hQ17.treeM
    rw [← htr'] at hTM
    rw [← htr']
    (repeat (first | with_reducible refine W.seq ?_ | with_reducible refine Ops.nil ?_ | with_reducible refine W.region ?_ | refine z_p (kk := ?_) | refine z_l (kk := ?_) | refine z_k (kk := fun _ _ _ _ _ => ?_)))
    (first | refine W.condD rfl (fun hc => ?_) (fun hc => ?_) | refine W.condE rfl (fun hc => ?_) (fun hc => ?_) | refine W.condN rfl (fun hc => ?_) (fun hc => ?_) | refine W.cond rfl (fun hc => ?_) (fun hc => ?_))
    · have hkk : k < (kid tr' i).length := by omega
      clear hTM
      have hlt : i < tr'.length := by omega
      obtain ⟨g, c', he, hcell⟩ := hQ17.cell hlt
      have hown := hQ17.own i hlt
      have hkd : (tr'.getD i ([], 0)).1 = kid tr' i := by simp [Go.Proofs.Ytdiljpnfochndaa.HP.kid]
      rw [hkd] at hown
      have hsep := hQ17.sep i hlt
      have hset := fun {w' ks} => hQ17.setK (w' := w') (ks := ks) hlt
      have hkb : ∀ q, (cvs.getD i undef).ownBlock = some q → outB (.slice A15 tr15.length c15) cvs q := fun q hq => .inr ⟨i, by omega, hq⟩
      simp only [Value.slice.injEq] at he
      obtain ⟨rfl, _, rfl⟩ := he
      obtain ⟨Akk, ckk, hke⟩ := own_sl' hown
      generalize cvs.getD i undef = kv at *
      subst hke
      have hOk : OI 3 (Value.int .i64) w6 w17 (.slice Akk (kid tr' i).length ckk) (kid tr' i) := ⟨hb17, hown, fun q hq => (hsep q hq).1⟩
      (repeat (first | with_reducible refine W.seq ?_ | with_reducible refine W.region ?_ | refine z_p (kk := ?_) | with_reducible refine W.skip ?_ | with_reducible refine W.block ?_))
      refine Ops.idx rfl rfl rfl rfl rfl rfl rfl (by omega) (by omega) ?_
      refine Ops.fld rfl rfl rfl rfl (ev_top _ _ _) ?_
      rw [add_zero', add_lit, Nat.zero_add, Int.toNat_natCast]
      refine Ops.ld rfl rfl rfl rfl (ev_top _ _ _) hcell ?_
      refine z_p (kk := ?_)
      refine Ops.wrO (i := k) (u := (-7 : Int)) (enc := Value.int .i64) rfl rfl rfl rfl rfl rfl rfl rfl rfl rfl rfl rfl (by simp) rfl hOk hkk (fun w18 _ hO18 k18 _ => ?_)
      have hkle := Sl.len (hOk.sl (z := (0 : Int)))
      have hQ18 := hset (w' := w18) (ks := (kid tr' i).set k (-7)) (by simpa using hO18.own) k18
      have hb18 : Below w6.heap.size w6 w18 := hO18.bel
      have hp18 := hp17.kp k18 (fun q hq => ⟨(hsep q hq).1, fun e => hpd q e (hkb q hq)⟩)
      (repeat (first | with_reducible refine Ops.nil ?_ | with_reducible refine W.region ?_ | refine z_p (kk := ?_) | refine z_a (kk := ?_) | with_reducible refine W.endb ?_))
      refine W.endl ⟨_, _, ⟨⟨k + 1, tr'.set i ((kid tr' i).set k (-7), (tr'.getD i ([], 0)).2), rfl, by rw [List.length_set], ?_, by omega, rfl, hb18, by rw [htr']; exact hQ18, hp18⟩, by omega⟩, (by repeat (first | exact trivial | refine And.intro rfl ?_))⟩
      rw [← hkl]
      have : kid (tr'.set i ((kid tr' i).set k (-7), (tr'.getD i ([], 0)).2)) i = (kid tr' i).set k (-7) := by
        simp [Go.Proofs.Ytdiljpnfochndaa.HP.kid, List.getD_eq_getElem?_getD, hlt]
      rw [this, List.length_set]
    · have hkk : k = (kid tr i).length := by omega
      clear hTM
      (repeat (first | with_reducible refine Ops.nil ?_ | with_reducible refine W.region ?_ | refine z_p (kk := ?_) | refine z_a (kk := ?_) | with_reducible refine W.endb ?_ | refine W.exit rfl ?_))
      exact W.endl ⟨_, _, ⟨⟨i + 1, tr', rfl, by omega, rfl, rfl, hb17, by rw [htr']; exact hQ17, hp17⟩, by omega⟩, (by repeat (first | exact trivial | refine And.intro rfl ?_))⟩
  · have hil : i = tr15.length := by omega
    clear hQ16
    (repeat (first | with_reducible refine W.seq ?_ | with_reducible refine Ops.nil ?_ | with_reducible refine W.region ?_ | refine z_p (kk := ?_) | with_reducible refine W.block ?_ | refine W.exit rfl ?_))
    refine W.loop (fun m ρ w17 => ∃ (i : Nat) (os : List Int), m = out3.length - i ∧ i ≤ out3.length ∧ os.length = out3.length ∧ ρ = [(7, .slice At l.length ct), (8, .slice Ak l.length ck), (15, .slice Ap out3.length cp), (20, .int .i64 i)] ∧ OI 3 (Value.int .i64) w6 w17 (.slice Ap out3.length cp) os)
      ⟨_, _, ⟨0, out3, rfl, Nat.zero_le _, rfl, rfl, hp16⟩, (by repeat (first | exact trivial | refine And.intro rfl ?_))⟩ ?_
    clear hp16 hb16
    rintro m ρ w17 ⟨i, os, rfl, hi, hos, rfl, hp17⟩
    have hb17 := hp17.bel
    (repeat (first | with_reducible refine W.seq ?_ | with_reducible refine Ops.nil ?_ | with_reducible refine W.region ?_ | refine z_p (kk := ?_) | refine z_l (kk := ?_)))
    (first | refine W.condD rfl (fun hc => ?_) (fun hc => ?_) | refine W.condE rfl (fun hc => ?_) (fun hc => ?_) | refine W.condN rfl (fun hc => ?_) (fun hc => ?_) | refine W.cond rfl (fun hc => ?_) (fun hc => ?_))
    · have hil : i < out3.length := by omega
      (repeat (first | with_reducible refine W.seq ?_ | with_reducible refine W.region ?_ | refine z_p (kk := ?_) | with_reducible refine W.skip ?_ | with_reducible refine W.block ?_))
      refine Ops.wrO (i := i) (u := (-7 : Int)) (enc := Value.int .i64) rfl rfl rfl rfl rfl rfl rfl rfl rfl rfl rfl rfl (by simp) rfl hp17 (by omega) (fun w18 _ hO18 k18 _ => ?_)
      (repeat (first | with_reducible refine Ops.nil ?_ | with_reducible refine W.region ?_ | refine z_p (kk := ?_) | refine z_a (kk := ?_) | with_reducible refine W.endb ?_))
      exact W.endl ⟨_, _, ⟨⟨i + 1, _, rfl, by omega, by rw [List.length_set]; exact hos, rfl, hO18⟩, by omega⟩, (by repeat (first | exact trivial | refine And.intro rfl ?_))⟩
    · have hT17 := hT6.below hb17
      have hK17 := hK6.below hb17
      have hb017 := Below.via hb06 hb17
      clear hp17 hT6 hK6
      (repeat (first | with_reducible refine W.seq ?_ | with_reducible refine W.region ?_ | refine z_p (kk := ?_) | refine W.exit rfl ?_))
      refine Ops.call rfl rfl rfl rfl rfl (sorted_c hT17 (by omega)) (fun r w18 hR => ?_)
      obtain ⟨hb18, hR⟩ := hR
      unfold SortR at hR
      rw [hg] at hR
      obtain ⟨vs4, av, cva, hvs4, rfl, hQa⟩ := hR
      obtain rfl := hvs4.uniq hTF hvs
      have hT18 := hT17.below hb18
      have hK18 := hK17.below hb18
      have hb018 := Below.via hb017 hb18
      have hS18 := hQa.treeM
      obtain ⟨A4, c4, rfl⟩ := hS18.sl
      clear hQa
      (repeat (first | with_reducible refine W.seq ?_ | with_reducible refine Ops.nil ?_ | with_reducible refine W.region ?_ | refine z_p (kk := ?_)))
      refine Ops.call rfl rfl rfl rfl rfl (turnedQ_c hT18 (by omega)) (fun r w19 hR => ?_)
      obtain ⟨hb19, hR⟩ := hR
      unfold TurnQ at hR
      rw [if_neg (by omega), hg] at hR
      obtain ⟨bv, cvb, rfl, hQb⟩ := hR
      have hU19 := hQb.treeM
      obtain ⟨A5, c5, rfl⟩ := hU19.sl
      have hT19 := hT18.below hb19
      have hK19 := hK18.below hb19
      have hS19 := hS18.below hb19
      have hb019 := Below.via hb018 hb19
      clear hQb hT17 hT18 hK17 hK18 hS18
      (repeat (first | with_reducible refine W.seq ?_ | with_reducible refine Ops.nil ?_ | with_reducible refine W.region ?_ | refine z_p (kk := ?_) | refine z_y (kk := ?_)))
      refine Ops.call rfl rfl rfl rfl rfl (trees_c hT19 hK19 (by omega)) (fun r w20 hR => ?_)
      obtain ⟨rfl, hb20⟩ := hR
      have hK20 := hK19.below hb20
      have hb020 := Below.via hb019 hb20
      (repeat (first | refine z_p (kk := ?_) | refine z_y (kk := ?_)))
      refine Ops.call rfl rfl rfl rfl rfl (refSorted_c hK20 hTF) (fun r w21 hR => ?_)
      obtain ⟨vs5, cvs5, hb21, hvs5, hQ21⟩ := hR
      obtain rfl := hvs5.uniq hTF hvs
      have hb021 := Below.via hb020 hb21
      have hb1921 := Below.via hb20 hb21
      (repeat (first | refine z_y (kk := ?_)))
      refine Ops.call rfl rfl rfl rfl rfl (trees_c (hS19.below hb1921) hQ21.treeM (by omega)) (fun r w22 hR => ?_)
      obtain ⟨rfl, hb22⟩ := hR
      have hb022 := Below.via hb021 hb22
      have hb1922 := Below.via hb1921 hb22
      (repeat (first | refine z_p (kk := ?_) | refine z_y (kk := ?_)))
      refine Ops.call rfl rfl rfl rfl rfl (refTurned_c (hK19.below hb1922) hTF) (fun r w23 hR => ?_)
      obtain ⟨cvs6, hO23⟩ := hR
      have hb23 := hO23.bel
      have hb023 := Below.via hb022 hb23
      have hb1923 := Below.via hb1922 hb23
      (repeat (first | refine z_y (kk := ?_)))
      refine Ops.call rfl rfl rfl rfl rfl (trees_c (hU19.below hb1923) hO23.treeM (by omega)) (fun r w24 hR => ?_)
      obtain ⟨rfl, hb24⟩ := hR
      have hb024 := Below.via hb023 hb24
      (repeat (first | refine z_p (kk := ?_) | refine z_y (kk := ?_)))
      refine Ops.call rfl rfl rfl rfl rfl (awake_c _) (fun r w25 hR => ?_)
      obtain ⟨rfl, hb25⟩ := hR
      (repeat (first | with_reducible refine Ops.nil ?_ | refine z_p (kk := ?_)))
      exact W.fret rfl ⟨rfl, Below.via hb024 hb25⟩
end Go.Proofs.Ytdiljpnfochndaa
/- Arguments as the walks read them. -/
namespace Go.Proofs.Ytdiljpnfochndaa.VW
open Go Go.RowKit
theorem sl_open {w : World} {x : Addr} {len cap : Nat} {zs : List Int} (hl : len ≤ cap) (hm : cap ≤ maxLen) (hz : zs.length = cap) (hc : ∀ i, i < zs.length → w.cell? (x.add i) = some (.int .i64 (zs.getD i 0))) : SlI w (.slice (some x) len cap) (zs.take len) := by
  have hlen : (zs.take len).length = len := by rw [List.length_take]; omega
  refine ⟨by rw [hlen]; simp only [maxLen] at hm; omega, some x, cap, by rw [hlen], fun _ => ⟨x, rfl, fun j hj => ?_⟩⟩
  rw [hlen] at hj
  rw [hc j (by omega)]
  simp [List.getD_eq_getElem?_getD, List.getElem?_take, hj]
end Go.Proofs.Ytdiljpnfochndaa.VW
/- Trees and lists among the arguments. -/
namespace Go.Proofs.Ytdiljpnfochndaa
open Go Go.RowKit Go.ChangeShapes Go.Proofs.Ytdiljpnfochndaa.VW
open Go.Proofs.Ytdiljpnfochndaa.HP (Nd kid wor)
theorem arg_open {w : World} {x : Addr} {len cap : Nat} {zs : List Int} (hl : len ≤ cap) (hm : cap ≤ maxLen) (hz : zs.length = cap) (hc : ∀ i, i < zs.length → w.cell? (x.add i) = some (.int .i64 (zs.getD i 0))) : Arg w (.slice (some x) len cap) (zs.take len) := by
  have hlen : (zs.take len).length = len := by rw [List.length_take]; omega
  exact ⟨sl_open hl hm hz hc, some x, cap, by rw [hlen], by omega⟩
theorem ints_arg {H : Type} {enc : TypeId × Value → H} {P : Program} {W : World} {t e : TypeId} {fuel : Nat} {v : Value} {x : DataW H × List MemPlace} (ht : P.underlying t = some (.slice e)) (he : P.underlying e = some (.int .i64)) (hc : P.cellsOf e = 1)
    (h : DataW.trod enc P W 0 (fun _ => true) true fuel t [v] = some x) : ∃ zs, Arg W v zs := by
  rcases open_ints ht he hc h with ⟨hcs, _⟩ | ⟨x, l, c, zs, hcs, _, hl, hm, hz, _, hcell, hwz⟩
  · simp at hcs
    subst hcs
    exact ⟨[], Sl.nil _ _ _ _ _, none, 0, rfl, Nat.le_refl _⟩
  · simp at hcs
    subst hcs
    exact ⟨_, arg_open hl hm (by simpa using hz) hcell⟩
theorem moves_arg {H : Type} {enc : TypeId × Value → H} {P : Program} {W : World} {t m s e : TypeId} {fuel : Nat} {v : Value} {x : DataW H × List MemPlace} {fs : Array Field} {f0 f1 : Field} (ht : P.underlying t = some (.slice m)) (hm : P.underlying m = some (.struct fs)) (hcm : P.cellsOf m = 2)
    (h0 : fs[0]? = some f0) (h1 : fs[1]? = some f1) (o0 : f0.offset = 0) (o1 : f1.offset = 1) (t0 : f0.type = s) (t1 : f1.type = e) (hs : P.underlying s = some (.slice e)) (he : P.underlying e = some (.int .i64)) (hcs : P.cellsOf s = 1) (hce : P.cellsOf e = 1)
    (h : DataW.trod enc P W 0 (fun _ => true) true fuel t [v] = some x) : ∃ l, ArgT W v l := by
  rcases DataW.trod_slice ht h with ⟨hv, _⟩ | ⟨a, len, cap, elems, rest, n, _, hv, _, hb, hl, hm2, hlen, hel, _, _⟩
  · simp at hv
    subst hv
    refine ⟨[], ⟨none, 0, [], rfl, fun h => by simp at h, fun j hj => by simp at hj⟩, by simp, fun i h1 h2 => by simp at h2; omega⟩
  · simp at hv
    subst hv
    have each : ∀ i, i < len → ∃ (cv : Value) (xs : List Int) (z : Int), W.cell? (a.add (i * 2)) = some cv ∧ W.cell? ((a.add (i * 2)).add 1) = some (.int .i64 z) ∧ Arg W cv xs := by
      intro i hi
      have hy := hel i hi
      rw [List.getElem?_eq_getElem (by omega), hcm, Option.bind_eq_some_iff] at hy
      obtain ⟨cs, hcs2, hst⟩ := hy
      obtain ⟨_, hcl, hcc⟩ := World.cells?_some hcs2
      obtain ⟨xs, n', _, _, _, hxl, hfld⟩ := DataW.trod_struct hm hst
      have q0 := hfld 0 f0 h0
      have q1 := hfld 1 f1 h1
      have hfs : 2 ≤ fs.size := by have := (Array.getElem?_eq_some_iff.1 h1).1; omega
      rw [o0, t0, hcs, List.getElem?_eq_getElem (by omega)] at q0
      rw [o1, t1, hce, List.getElem?_eq_getElem (by omega)] at q1
      obtain ⟨c0, c1, rfl⟩ : ∃ c0 c1, cs = [c0, c1] := by
        match cs, hcl with
        | [c0, c1], _ => exact ⟨c0, c1, rfl⟩
      simp only [List.drop_zero, List.take_succ_cons, List.take_zero] at q0
      simp only [List.drop_succ_cons, List.drop_zero, List.take_succ_cons, List.take_zero] at q1
      obtain ⟨zs, hz⟩ := ints_arg hs he hce q0
      obtain ⟨z, hz1, _, _⟩ := DataW.trod_int he q1
      simp at hz1
      subst hz1
      have g0 := hcc 0 (by omega)
      have g1 := hcc 1 (by omega)
      simp only [List.getElem?_cons_zero, List.getElem?_cons_succ] at g0 g1
      rw [show ∀ p : Addr, p.add 0 = p from add_zero'] at g0
      exact ⟨c0, zs, z, g0, g1, hz⟩
    have hx : ∀ i, ∃ q : Value × List Int × Int, i < len → W.cell? (a.add (i * 2)) = some q.1 ∧ W.cell? ((a.add (i * 2)).add 1) = some (.int .i64 q.2.2) ∧ Arg W q.1 q.2.1 := fun i => by
      by_cases hi : i < len
      · obtain ⟨cv, xs, z, g⟩ := each i hi
        exact ⟨⟨cv, xs, z⟩, fun _ => g⟩
      · exact ⟨⟨undef, [], 0⟩, fun h => absurd h hi⟩
    let q : Nat → Value × List Int × Int := fun i => Classical.choose (hx i)
    have hq : ∀ i, i < len → W.cell? (a.add (i * 2)) = some (q i).1 ∧ W.cell? ((a.add (i * 2)).add 1) = some (.int .i64 (q i).2.2) ∧ Arg W (q i).1 (q i).2.1 := fun i => Classical.choose_spec (hx i)
    let l : List Nd := (List.range len).map fun i => ((q i).2.1, (q i).2.2)
    have hll : l.length = len := by simp [l]
    have hlg : ∀ i, i < len → l.getD i ([], 0) = ((q i).2.1, (q i).2.2) := fun i hi => by simp [l, List.getD_eq_getElem?_getD, hi]
    let cvs : List Value := (List.range len).map fun i => (q i).1
    have hcg : ∀ i, i < len → cvs.getD i undef = (q i).1 := fun i hi => by simp [cvs, List.getD_eq_getElem?_getD, hi]
    have hT : TreeM W (.slice (some a) len cap) l := by
      refine ⟨some a, cap, cvs, by rw [hll], fun _ => ⟨a, rfl, fun j hj => ?_⟩, fun j hj => ?_⟩
      · rw [hll] at hj
        rw [hcg j hj, hlg j hj]
        exact ⟨(hq j hj).1, (hq j hj).2.1⟩
      · rw [hll] at hj
        rw [hcg j hj, hlg j hj]
        exact (hq j hj).2.2.1
    refine ⟨l, hT, by rw [hll]; simp only [maxLen] at hm2; omega, fun i h0 hi => ?_⟩
    rw [hll] at hi
    obtain ⟨g0, g1, g2, A', c', g3, g4⟩ := hq i.toNat (by omega)
    have hk : kid l i = (q i.toNat).2.1 := by unfold kid; rw [hlg i.toNat (by omega)]
    have hw : wor l i = (q i.toNat).2.2 := by unfold wor; rw [hlg i.toNat (by omega)]
    rw [hk, hw]
    refine ⟨a, cap, A', c', by rw [hll], by rw [← g3]; exact g2, g4, fun w' hb => ?_⟩
    have kk := Kp.of_below (S := fun _ => False) hb
    exact ⟨by rw [← g3]; exact cell_kp kk g0 (fun e => e), cell_kp kk g1 (fun e => e)⟩
end Go.Proofs.Ytdiljpnfochndaa
