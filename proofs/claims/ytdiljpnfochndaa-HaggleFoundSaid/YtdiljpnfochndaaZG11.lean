/- A part of the walk: what this seat's statements share. -/
import Derived.Test.YtdiljpnfochndaaZG10
import Derived.Test.YtdiljpnfochndaaZG8
import Derived.Test.YtdiljpnfochndaaZG3
import Derived.Test.YtdiljpnfochndaaZG9
import Derived.Test.YtdiljpnfochndaaZG6
import Derived.Test.YtdiljpnfochndaaZG4
set_option linter.unusedVariables false
set_option linter.unusedSimpArgs false
set_option linter.unusedSectionVars false
namespace Go.Proofs.Ytdiljpnfochndaa
open Go Go.RowKit Go.Proofs.Ytdiljpnfochndaa.VW
open Go.Proofs.Ytdiljpnfochndaa.HP (SegP SortK Blk)
attribute [local irreducible] W Ops OrdA VW.Ord OrdX
set_option maxHeartbeats 8000000 in
theorem stable_c {G : World → Prop} {wB w : World} {ov vf : Value} {os0 : List Int} {n fc : Nat} {first cap : List Value} {cv : Int → Int → Int} {K : Int → Int} (hO : OH G wB w ov os0) (hGs : Gst G ov) (hn : n = os0.length) (hl : n < 60) (hvf : vf = .func (.func fc) first.toArray cap.toArray) (hfm : memB (Fns.L Try.prog) fc = true)
    (hcc : ∀ p q : Nat, p < q → q < n → Cmp G wB fc first cap cv K (os0.getD p 0) (os0.getD q 0)) :
    Calls Try.prog 99 #[ov, .int .i64 n, vf] w (Ret fun r w' => ∃ os, OH G wB w' ov os ∧ SegP 0 n os0 os ∧ SortK K os 0 n) := by
  obtain ⟨A, c, rfl⟩ := hO.sh
  refine calls_W (vs := [_, _, _]) Try.func99 rfl (by kernel_rfl) rfl ?_
  (repeat (first | with_reducible refine W.seq ?_ | with_reducible refine Ops.nil ?_ | with_reducible refine W.region ?_ | refine z_p (kk := ?_) | refine z_a (kk := ?_) | refine z_y (kk := ?_) | refine z_n (kk := ?_) | refine z_u (kk := ?_) | with_reducible refine W.skip ?_ | with_reducible refine W.endb ?_ | with_reducible refine W.block ?_ | refine W.exit rfl ?_ | refine z_l (kk := ?_) | refine z_f (kk := ?_) | refine z_M (kk := ?_) | refine z_m (kk := ?_) | refine z_e (kk := ?_) | refine z_E (kk := ?_) | refine z_d (kk := ?_) | refine z_I (kk := fun _ => ?_) | refine z_J (kk := fun _ => ?_) | refine z_K (kk := fun _ => ?_) | refine z_L (kk := fun _ => ?_) | refine z_T (kk := ?_) | refine z_F (kk := ?_) | refine z_k (kk := fun _ _ _ _ _ => ?_) | refine z_w (kk := fun _ _ => ?_) | refine z_s (kk := fun _ _ _ _ => ?_) | refine z_D (kk := ?_) | refine z_g (kk := ?_) | refine z_h (kk := ?_)))
  refine W.loop (fun z ρ w1 => ∃ (t : Nat) (os : List Int), z = n - 20 * t ∧ 20 * t ≤ n ∧ ρ = [(0, .slice A os0.length c), (1, .int .i64 n), (2, vf), (6, .int .i64 20), (7, .int .i64 ((20 * t : Nat) : Int)), (8, .int .i64 ((20 * t + 20 : Nat) : Int))] ∧ OH G wB w1 (.slice A os0.length c) os ∧ Blk K 20 (20 * t) os0 os)
    ⟨_, _, ⟨0, os0, rfl, by omega, rfl, hO, Blk.start K 20 os0⟩, (by repeat (first | exact trivial | refine And.intro rfl ?_))⟩ ?_
  clear hO
  rintro z ρ w1 ⟨t, os, rfl, htn, rfl, hO, hB⟩
  have hol := hB.seg.len
  have hcs : ∀ p q : Nat, 20 * t ≤ p → p < q → q < n → Cmp G wB fc first cap cv K (os.getD p 0) (os.getD q 0) := fun p q h1 h2 h3 => by
    rw [hB.seg.out p (by omega), hB.seg.out q (by omega)]; exact hcc p q h2 h3
  (repeat (first | with_reducible refine W.seq ?_ | with_reducible refine Ops.nil ?_ | with_reducible refine W.region ?_ | refine z_p (kk := ?_) | refine z_a (kk := ?_) | refine z_y (kk := ?_) | refine z_n (kk := ?_) | refine z_u (kk := ?_) | with_reducible refine W.skip ?_ | with_reducible refine W.endb ?_ | with_reducible refine W.block ?_ | refine W.exit rfl ?_ | refine z_l (kk := ?_) | refine z_f (kk := ?_) | refine z_M (kk := ?_) | refine z_m (kk := ?_) | refine z_e (kk := ?_) | refine z_E (kk := ?_) | refine z_d (kk := ?_) | refine z_I (kk := fun _ => ?_) | refine z_J (kk := fun _ => ?_) | refine z_K (kk := fun _ => ?_) | refine z_L (kk := fun _ => ?_) | refine z_T (kk := ?_) | refine z_F (kk := ?_) | refine z_k (kk := fun _ _ _ _ _ => ?_) | refine z_w (kk := fun _ _ => ?_) | refine z_s (kk := fun _ _ _ _ => ?_) | refine z_D (kk := ?_) | refine z_g (kk := ?_) | refine z_h (kk := ?_)))
  (first | refine W.condD rfl (fun hc => ?_) (fun hc => ?_) | refine W.condE rfl (fun hc => ?_) (fun hc => ?_) | refine W.condN rfl (fun hc => ?_) (fun hc => ?_) | refine W.cond rfl (fun hc => ?_) (fun hc => ?_))
  · have htn' : 20 * t + 20 ≤ n := by omega
    have hcl := insertion_c (a := 20 * t) (b := 20 * t + 20) hO hGs (by omega) (by omega) (by omega) hvf hfm (fun p q h1 h2 h3 => hcs p q h1 h2 (by omega))
    (repeat (first | with_reducible refine W.seq ?_ | with_reducible refine Ops.nil ?_ | with_reducible refine W.region ?_ | refine z_p (kk := ?_) | refine z_a (kk := ?_) | refine z_y (kk := ?_) | refine z_n (kk := ?_) | refine z_u (kk := ?_) | with_reducible refine W.skip ?_ | with_reducible refine W.endb ?_ | with_reducible refine W.block ?_ | refine W.exit rfl ?_ | refine z_l (kk := ?_) | refine z_f (kk := ?_) | refine z_M (kk := ?_) | refine z_m (kk := ?_) | refine z_e (kk := ?_) | refine z_E (kk := ?_) | refine z_d (kk := ?_) | refine z_I (kk := fun _ => ?_) | refine z_J (kk := fun _ => ?_) | refine z_K (kk := fun _ => ?_) | refine z_L (kk := fun _ => ?_) | refine z_T (kk := ?_) | refine z_F (kk := ?_) | refine z_k (kk := fun _ _ _ _ _ => ?_) | refine z_w (kk := fun _ _ => ?_) | refine z_s (kk := fun _ _ _ _ => ?_) | refine z_D (kk := ?_) | refine z_g (kk := ?_) | refine z_h (kk := ?_)))
    refine Ops.call rfl rfl rfl rfl rfl hcl (fun v w2 hR2 => ?_)
    obtain ⟨os1, hO1, hS1, hK1⟩ := hR2
    have hB' := hB.ins (by omega) (by omega) hS1 hK1
    (repeat (first | with_reducible refine W.seq ?_ | with_reducible refine Ops.nil ?_ | with_reducible refine W.region ?_ | refine z_p (kk := ?_) | refine z_a (kk := ?_) | refine z_y (kk := ?_) | refine z_n (kk := ?_) | refine z_u (kk := ?_) | with_reducible refine W.skip ?_ | with_reducible refine W.endb ?_ | with_reducible refine W.block ?_ | refine W.exit rfl ?_ | refine z_l (kk := ?_) | refine z_f (kk := ?_) | refine z_M (kk := ?_) | refine z_m (kk := ?_) | refine z_e (kk := ?_) | refine z_E (kk := ?_) | refine z_d (kk := ?_) | refine z_I (kk := fun _ => ?_) | refine z_J (kk := fun _ => ?_) | refine z_K (kk := fun _ => ?_) | refine z_L (kk := fun _ => ?_) | refine z_T (kk := ?_) | refine z_F (kk := ?_) | refine z_k (kk := fun _ _ _ _ _ => ?_) | refine z_w (kk := fun _ _ => ?_) | refine z_s (kk := fun _ _ _ _ => ?_) | refine z_D (kk := ?_) | refine z_g (kk := ?_) | refine z_h (kk := ?_)))
    have e1 : ((20 * t + 20 : Nat) : Int) + 20 = ((20 * (t + 1) + 20 : Nat) : Int) := by omega
    simp only [e1]
    exact W.endl ⟨_, _, ⟨⟨t + 1, os1, rfl, by omega, by rw [show 20 * (t + 1) = 20 * t + 20 by omega], hO1, by rw [show 20 * (t + 1) = 20 * t + 20 by omega]; exact hB'⟩, by omega⟩, (by repeat (first | exact trivial | refine And.intro rfl ?_))⟩
  have hcl := insertion_c (a := 20 * t) (b := n) hO hGs (by omega) (by omega) (by omega) hvf hfm (fun p q h1 h2 h3 => hcs p q h1 h2 (by omega))
  (repeat (first | with_reducible refine W.seq ?_ | with_reducible refine Ops.nil ?_ | with_reducible refine W.region ?_ | refine z_p (kk := ?_) | refine z_a (kk := ?_) | refine z_y (kk := ?_) | refine z_n (kk := ?_) | refine z_u (kk := ?_) | with_reducible refine W.skip ?_ | with_reducible refine W.endb ?_ | with_reducible refine W.block ?_ | refine W.exit rfl ?_ | refine z_l (kk := ?_) | refine z_f (kk := ?_) | refine z_M (kk := ?_) | refine z_m (kk := ?_) | refine z_e (kk := ?_) | refine z_E (kk := ?_) | refine z_d (kk := ?_) | refine z_I (kk := fun _ => ?_) | refine z_J (kk := fun _ => ?_) | refine z_K (kk := fun _ => ?_) | refine z_L (kk := fun _ => ?_) | refine z_T (kk := ?_) | refine z_F (kk := ?_) | refine z_k (kk := fun _ _ _ _ _ => ?_) | refine z_w (kk := fun _ _ => ?_) | refine z_s (kk := fun _ _ _ _ => ?_) | refine z_D (kk := ?_) | refine z_g (kk := ?_) | refine z_h (kk := ?_)))
  refine Ops.call rfl rfl rfl rfl rfl hcl (fun v w2 hR2 => ?_)
  obtain ⟨os1, hO1, hS1, hK1⟩ := hR2
  have hB1 := hB.ins (by omega) (by omega) hS1 hK1
  clear hcl hB hS1 hK1 hO hol hcs
  (repeat (first | with_reducible refine W.seq ?_ | with_reducible refine Ops.nil ?_ | with_reducible refine W.region ?_ | refine z_p (kk := ?_) | refine z_a (kk := ?_) | refine z_y (kk := ?_) | refine z_n (kk := ?_) | refine z_u (kk := ?_) | with_reducible refine W.skip ?_ | with_reducible refine W.endb ?_ | with_reducible refine W.block ?_ | refine W.exit rfl ?_ | refine z_l (kk := ?_) | refine z_f (kk := ?_) | refine z_M (kk := ?_) | refine z_m (kk := ?_) | refine z_e (kk := ?_) | refine z_E (kk := ?_) | refine z_d (kk := ?_) | refine z_I (kk := fun _ => ?_) | refine z_J (kk := fun _ => ?_) | refine z_K (kk := fun _ => ?_) | refine z_L (kk := fun _ => ?_) | refine z_T (kk := ?_) | refine z_F (kk := ?_) | refine z_k (kk := fun _ _ _ _ _ => ?_) | refine z_w (kk := fun _ _ => ?_) | refine z_s (kk := fun _ _ _ _ => ?_) | refine z_D (kk := ?_) | refine z_g (kk := ?_) | refine z_h (kk := ?_)))
  refine W.loop (fun z ρ w1 => ∃ (bs : Nat) (os : List Int), z = 80 - bs ∧ ρ = [(0, .slice A os0.length c), (1, .int .i64 n), (2, vf), (6, .int .i64 bs)] ∧ OH G wB w1 (.slice A os0.length c) os ∧ (bs = 20 ∧ Blk K 20 n os0 os ∨ bs = 40 ∧ Blk K 40 n os0 os ∨ bs = 80 ∧ Blk K 80 n os0 os))
    ⟨_, _, ⟨20, os1, rfl, rfl, hO1, .inl ⟨rfl, hB1⟩⟩, (by repeat (first | exact trivial | refine And.intro rfl ?_))⟩ ?_
  clear hO1 hB1
  rintro z ρ w1 ⟨bs, os, hz, rfl, hO, hB⟩
  subst hz
  by_cases hbn : bs < n
  · rcases hB with ⟨rfl, hB⟩ | ⟨rfl, hB⟩ | ⟨rfl, hB⟩
    · (repeat (first | with_reducible refine W.seq ?_ | with_reducible refine Ops.nil ?_ | with_reducible refine W.region ?_ | refine z_p (kk := ?_) | refine z_a (kk := ?_) | refine z_y (kk := ?_) | refine z_n (kk := ?_) | refine z_u (kk := ?_) | with_reducible refine W.skip ?_ | with_reducible refine W.endb ?_ | with_reducible refine W.block ?_ | refine W.exit rfl ?_ | refine z_l (kk := ?_) | refine z_f (kk := ?_) | refine z_M (kk := ?_) | refine z_m (kk := ?_) | refine z_e (kk := ?_) | refine z_E (kk := ?_) | refine z_d (kk := ?_) | refine z_I (kk := fun _ => ?_) | refine z_J (kk := fun _ => ?_) | refine z_K (kk := fun _ => ?_) | refine z_L (kk := fun _ => ?_) | refine z_T (kk := ?_) | refine z_F (kk := ?_) | refine z_k (kk := fun _ _ _ _ _ => ?_) | refine z_w (kk := fun _ _ => ?_) | refine z_s (kk := fun _ _ _ _ => ?_) | refine z_D (kk := ?_) | refine z_g (kk := ?_) | refine z_h (kk := ?_)))
      refine W.condT rfl (by first | rfl | assumption | (simp only [bnf] <;> omega) | (simp only [*, bnf]; done) | fail) ?_
      (repeat (first | with_reducible refine W.seq ?_ | with_reducible refine Ops.nil ?_ | with_reducible refine W.region ?_ | refine z_p (kk := ?_) | refine z_a (kk := ?_) | refine z_y (kk := ?_) | refine z_n (kk := ?_) | refine z_u (kk := ?_) | with_reducible refine W.skip ?_ | with_reducible refine W.endb ?_ | with_reducible refine W.block ?_ | refine W.exit rfl ?_ | refine z_l (kk := ?_) | refine z_f (kk := ?_) | refine z_M (kk := ?_) | refine z_m (kk := ?_) | refine z_e (kk := ?_) | refine z_E (kk := ?_) | refine z_d (kk := ?_) | refine z_I (kk := fun _ => ?_) | refine z_J (kk := fun _ => ?_) | refine z_K (kk := fun _ => ?_) | refine z_L (kk := fun _ => ?_) | refine z_T (kk := ?_) | refine z_F (kk := ?_) | refine z_k (kk := fun _ _ _ _ _ => ?_) | refine z_w (kk := fun _ _ => ?_) | refine z_s (kk := fun _ _ _ _ => ?_) | refine z_D (kk := ?_) | refine z_g (kk := ?_) | refine z_h (kk := ?_)))
      refine W.loop (fun z ρ w1 => ∃ (os : List Int) (a b : Nat), z = 80 - b ∧ ρ = [(0, .slice A os0.length c), (1, .int .i64 n), (2, vf), (6, .int .i64 20), (7, .int .i64 a), (8, .int .i64 b)] ∧ OH G wB w1 (.slice A os0.length c) os ∧ (a = 0 ∧ b = 40 ∧ Blk K 20 n os0 os ∨ a = 40 ∧ b = 80 ∧ 40 ≤ n ∧ Blk K 40 n os0 os))
        ⟨_, _, ⟨os, 0, 40, rfl, rfl, hO, .inl ⟨rfl, rfl, hB⟩⟩, (by repeat (first | exact trivial | refine And.intro rfl ?_))⟩ ?_
      clear hO hB
      rintro z ρ w1 ⟨os, a, b, hz, rfl, hO, hB⟩
      subst hz
      rcases hB with ⟨rfl, rfl, hB⟩ | ⟨rfl, rfl, hn4, hB⟩
      · have hol := hB.seg.len
        by_cases hn4 : 40 ≤ n
        · have hcl := symMerge_c (K := K) (cv := cv) hvf hfm 41 (a := 0) (m := 20) (b := 40) (by omega) hO hGs (by omega) (by omega) (by omega) (by omega) (fun p q h1 h2 h3 h4 => by
            obtain ⟨y, z, y1, y2, y3, y4⟩ := hB.ord (show p < n by omega) (show q < n by omega) (by omega)
            rw [y3, y4]; exact hcc y z y1 y2) (fun p q h1 h2 h3 => hB.srt p q h2 (by omega) (by omega)) (fun p q h1 h2 h3 => hB.srt p q h2 (by omega) (by omega))
          (repeat (first | with_reducible refine W.seq ?_ | with_reducible refine Ops.nil ?_ | with_reducible refine W.region ?_ | refine z_p (kk := ?_) | refine z_a (kk := ?_) | refine z_y (kk := ?_) | refine z_n (kk := ?_) | refine z_u (kk := ?_) | with_reducible refine W.skip ?_ | with_reducible refine W.endb ?_ | with_reducible refine W.block ?_ | refine W.exit rfl ?_ | refine z_l (kk := ?_) | refine z_f (kk := ?_) | refine z_M (kk := ?_) | refine z_m (kk := ?_) | refine z_e (kk := ?_) | refine z_E (kk := ?_) | refine z_d (kk := ?_) | refine z_I (kk := fun _ => ?_) | refine z_J (kk := fun _ => ?_) | refine z_K (kk := fun _ => ?_) | refine z_L (kk := fun _ => ?_) | refine z_T (kk := ?_) | refine z_F (kk := ?_) | refine z_k (kk := fun _ _ _ _ _ => ?_) | refine z_w (kk := fun _ _ => ?_) | refine z_s (kk := fun _ _ _ _ => ?_) | refine z_D (kk := ?_) | refine z_g (kk := ?_) | refine z_h (kk := ?_)))
          refine W.condT rfl (by first | rfl | assumption | (simp only [bnf] <;> omega) | (simp only [*, bnf]; done) | fail) ?_
          (repeat (first | with_reducible refine W.seq ?_ | with_reducible refine Ops.nil ?_ | with_reducible refine W.region ?_ | refine z_p (kk := ?_) | refine z_a (kk := ?_) | refine z_y (kk := ?_) | refine z_n (kk := ?_) | refine z_u (kk := ?_) | with_reducible refine W.skip ?_ | with_reducible refine W.endb ?_ | with_reducible refine W.block ?_ | refine W.exit rfl ?_ | refine z_l (kk := ?_) | refine z_f (kk := ?_) | refine z_M (kk := ?_) | refine z_m (kk := ?_) | refine z_e (kk := ?_) | refine z_E (kk := ?_) | refine z_d (kk := ?_) | refine z_I (kk := fun _ => ?_) | refine z_J (kk := fun _ => ?_) | refine z_K (kk := fun _ => ?_) | refine z_L (kk := fun _ => ?_) | refine z_T (kk := ?_) | refine z_F (kk := ?_) | refine z_k (kk := fun _ _ _ _ _ => ?_) | refine z_w (kk := fun _ _ => ?_) | refine z_s (kk := fun _ _ _ _ => ?_) | refine z_D (kk := ?_) | refine z_g (kk := ?_) | refine z_h (kk := ?_)))
          refine Ops.call rfl rfl rfl rfl rfl hcl (fun v w2 hR2 => ?_)
          obtain ⟨os1, hO1, hS1, hK1⟩ := hR2
          have hB' := hB.half hS1 hK1 hl hn4
          (repeat (first | with_reducible refine W.seq ?_ | with_reducible refine Ops.nil ?_ | with_reducible refine W.region ?_ | refine z_p (kk := ?_) | refine z_a (kk := ?_) | refine z_y (kk := ?_) | refine z_n (kk := ?_) | refine z_u (kk := ?_) | with_reducible refine W.skip ?_ | with_reducible refine W.endb ?_ | with_reducible refine W.block ?_ | refine W.exit rfl ?_ | refine z_l (kk := ?_) | refine z_f (kk := ?_) | refine z_M (kk := ?_) | refine z_m (kk := ?_) | refine z_e (kk := ?_) | refine z_E (kk := ?_) | refine z_d (kk := ?_) | refine z_I (kk := fun _ => ?_) | refine z_J (kk := fun _ => ?_) | refine z_K (kk := fun _ => ?_) | refine z_L (kk := fun _ => ?_) | refine z_T (kk := ?_) | refine z_F (kk := ?_) | refine z_k (kk := fun _ _ _ _ _ => ?_) | refine z_w (kk := fun _ _ => ?_) | refine z_s (kk := fun _ _ _ _ => ?_) | refine z_D (kk := ?_) | refine z_g (kk := ?_) | refine z_h (kk := ?_)))
          exact W.endl ⟨_, _, ⟨⟨os1, 40, 80, rfl, rfl, hO1, .inr ⟨rfl, rfl, hn4, hB'⟩⟩, by omega⟩, (by repeat (first | exact trivial | refine And.intro rfl ?_))⟩
        · have hcl := symMerge_c (K := K) (cv := cv) hvf hfm 41 (a := 0) (m := 20) (b := n) (by omega) hO hGs (by omega) (by omega) (by omega) (by omega) (fun p q h1 h2 h3 h4 => by
            obtain ⟨y, z, y1, y2, y3, y4⟩ := hB.ord (show p < n by omega) (show q < n by omega) (by omega)
            rw [y3, y4]; exact hcc y z y1 y2) (fun p q h1 h2 h3 => hB.srt p q h2 (by omega) (by omega)) (fun p q h1 h2 h3 => hB.srt p q h2 (by omega) (by omega))
          (repeat (first | with_reducible refine W.seq ?_ | with_reducible refine Ops.nil ?_ | with_reducible refine W.region ?_ | refine z_p (kk := ?_) | refine z_a (kk := ?_) | refine z_y (kk := ?_) | refine z_n (kk := ?_) | refine z_u (kk := ?_) | with_reducible refine W.skip ?_ | with_reducible refine W.endb ?_ | with_reducible refine W.block ?_ | refine W.exit rfl ?_ | refine z_l (kk := ?_) | refine z_f (kk := ?_) | refine z_M (kk := ?_) | refine z_m (kk := ?_) | refine z_e (kk := ?_) | refine z_E (kk := ?_) | refine z_d (kk := ?_) | refine z_I (kk := fun _ => ?_) | refine z_J (kk := fun _ => ?_) | refine z_K (kk := fun _ => ?_) | refine z_L (kk := fun _ => ?_) | refine z_T (kk := ?_) | refine z_F (kk := ?_) | refine z_k (kk := fun _ _ _ _ _ => ?_) | refine z_w (kk := fun _ _ => ?_) | refine z_s (kk := fun _ _ _ _ => ?_) | refine z_D (kk := ?_) | refine z_g (kk := ?_) | refine z_h (kk := ?_)))
          refine W.condF rfl (by first | rfl | assumption | (simp only [bnf] <;> omega) | (simp only [*, bnf]; done) | fail) ?_
          (repeat (first | with_reducible refine W.seq ?_ | with_reducible refine Ops.nil ?_ | with_reducible refine W.region ?_ | refine z_p (kk := ?_) | refine z_a (kk := ?_) | refine z_y (kk := ?_) | refine z_n (kk := ?_) | refine z_u (kk := ?_) | with_reducible refine W.skip ?_ | with_reducible refine W.endb ?_ | with_reducible refine W.block ?_ | refine W.exit rfl ?_ | refine z_l (kk := ?_) | refine z_f (kk := ?_) | refine z_M (kk := ?_) | refine z_m (kk := ?_) | refine z_e (kk := ?_) | refine z_E (kk := ?_) | refine z_d (kk := ?_) | refine z_I (kk := fun _ => ?_) | refine z_J (kk := fun _ => ?_) | refine z_K (kk := fun _ => ?_) | refine z_L (kk := fun _ => ?_) | refine z_T (kk := ?_) | refine z_F (kk := ?_) | refine z_k (kk := fun _ _ _ _ _ => ?_) | refine z_w (kk := fun _ _ => ?_) | refine z_s (kk := fun _ _ _ _ => ?_) | refine z_D (kk := ?_) | refine z_g (kk := ?_) | refine z_h (kk := ?_)))
          refine W.condT rfl (by first | rfl | assumption | (simp only [bnf] <;> omega) | (simp only [*, bnf]; done) | fail) ?_
          (repeat (first | with_reducible refine W.seq ?_ | with_reducible refine Ops.nil ?_ | with_reducible refine W.region ?_ | refine z_p (kk := ?_) | refine z_a (kk := ?_) | refine z_y (kk := ?_) | refine z_n (kk := ?_) | refine z_u (kk := ?_) | with_reducible refine W.skip ?_ | with_reducible refine W.endb ?_ | with_reducible refine W.block ?_ | refine W.exit rfl ?_ | refine z_l (kk := ?_) | refine z_f (kk := ?_) | refine z_M (kk := ?_) | refine z_m (kk := ?_) | refine z_e (kk := ?_) | refine z_E (kk := ?_) | refine z_d (kk := ?_) | refine z_I (kk := fun _ => ?_) | refine z_J (kk := fun _ => ?_) | refine z_K (kk := fun _ => ?_) | refine z_L (kk := fun _ => ?_) | refine z_T (kk := ?_) | refine z_F (kk := ?_) | refine z_k (kk := fun _ _ _ _ _ => ?_) | refine z_w (kk := fun _ _ => ?_) | refine z_s (kk := fun _ _ _ _ => ?_) | refine z_D (kk := ?_) | refine z_g (kk := ?_) | refine z_h (kk := ?_)))
          refine Ops.call rfl rfl rfl rfl rfl hcl (fun v w2 hR2 => ?_)
          obtain ⟨os1, hO1, hS1, hK1⟩ := hR2
          have hB' := hB.all (bs' := 40) hS1 hK1 (by omega)
          (repeat (first | with_reducible refine W.seq ?_ | with_reducible refine Ops.nil ?_ | with_reducible refine W.region ?_ | refine z_p (kk := ?_) | refine z_a (kk := ?_) | refine z_y (kk := ?_) | refine z_n (kk := ?_) | refine z_u (kk := ?_) | with_reducible refine W.skip ?_ | with_reducible refine W.endb ?_ | with_reducible refine W.block ?_ | refine W.exit rfl ?_ | refine z_l (kk := ?_) | refine z_f (kk := ?_) | refine z_M (kk := ?_) | refine z_m (kk := ?_) | refine z_e (kk := ?_) | refine z_E (kk := ?_) | refine z_d (kk := ?_) | refine z_I (kk := fun _ => ?_) | refine z_J (kk := fun _ => ?_) | refine z_K (kk := fun _ => ?_) | refine z_L (kk := fun _ => ?_) | refine z_T (kk := ?_) | refine z_F (kk := ?_) | refine z_k (kk := fun _ _ _ _ _ => ?_) | refine z_w (kk := fun _ _ => ?_) | refine z_s (kk := fun _ _ _ _ => ?_) | refine z_D (kk := ?_) | refine z_g (kk := ?_) | refine z_h (kk := ?_)))
          exact W.endl ⟨_, _, ⟨⟨40, os1, rfl, rfl, hO1, .inr (.inl ⟨rfl, hB'⟩)⟩, by omega⟩, (by repeat (first | exact trivial | refine And.intro rfl ?_))⟩
      · (repeat (first | with_reducible refine W.seq ?_ | with_reducible refine Ops.nil ?_ | with_reducible refine W.region ?_ | refine z_p (kk := ?_) | refine z_a (kk := ?_) | refine z_y (kk := ?_) | refine z_n (kk := ?_) | refine z_u (kk := ?_) | with_reducible refine W.skip ?_ | with_reducible refine W.endb ?_ | with_reducible refine W.block ?_ | refine W.exit rfl ?_ | refine z_l (kk := ?_) | refine z_f (kk := ?_) | refine z_M (kk := ?_) | refine z_m (kk := ?_) | refine z_e (kk := ?_) | refine z_E (kk := ?_) | refine z_d (kk := ?_) | refine z_I (kk := fun _ => ?_) | refine z_J (kk := fun _ => ?_) | refine z_K (kk := fun _ => ?_) | refine z_L (kk := fun _ => ?_) | refine z_T (kk := ?_) | refine z_F (kk := ?_) | refine z_k (kk := fun _ _ _ _ _ => ?_) | refine z_w (kk := fun _ _ => ?_) | refine z_s (kk := fun _ _ _ _ => ?_) | refine z_D (kk := ?_) | refine z_g (kk := ?_) | refine z_h (kk := ?_)))
        refine W.condF rfl (by first | rfl | assumption | (simp only [bnf] <;> omega) | (simp only [*, bnf]; done) | fail) ?_
        (repeat (first | with_reducible refine W.seq ?_ | with_reducible refine Ops.nil ?_ | with_reducible refine W.region ?_ | refine z_p (kk := ?_) | refine z_a (kk := ?_) | refine z_y (kk := ?_) | refine z_n (kk := ?_) | refine z_u (kk := ?_) | with_reducible refine W.skip ?_ | with_reducible refine W.endb ?_ | with_reducible refine W.block ?_ | refine W.exit rfl ?_ | refine z_l (kk := ?_) | refine z_f (kk := ?_) | refine z_M (kk := ?_) | refine z_m (kk := ?_) | refine z_e (kk := ?_) | refine z_E (kk := ?_) | refine z_d (kk := ?_) | refine z_I (kk := fun _ => ?_) | refine z_J (kk := fun _ => ?_) | refine z_K (kk := fun _ => ?_) | refine z_L (kk := fun _ => ?_) | refine z_T (kk := ?_) | refine z_F (kk := ?_) | refine z_k (kk := fun _ _ _ _ _ => ?_) | refine z_w (kk := fun _ _ => ?_) | refine z_s (kk := fun _ _ _ _ => ?_) | refine z_D (kk := ?_) | refine z_g (kk := ?_) | refine z_h (kk := ?_)))
        refine W.condF rfl (by first | rfl | assumption | (simp only [bnf] <;> omega) | (simp only [*, bnf]; done) | fail) ?_
        (repeat (first | with_reducible refine W.seq ?_ | with_reducible refine Ops.nil ?_ | with_reducible refine W.region ?_ | refine z_p (kk := ?_) | refine z_a (kk := ?_) | refine z_y (kk := ?_) | refine z_n (kk := ?_) | refine z_u (kk := ?_) | with_reducible refine W.skip ?_ | with_reducible refine W.endb ?_ | with_reducible refine W.block ?_ | refine W.exit rfl ?_ | refine z_l (kk := ?_) | refine z_f (kk := ?_) | refine z_M (kk := ?_) | refine z_m (kk := ?_) | refine z_e (kk := ?_) | refine z_E (kk := ?_) | refine z_d (kk := ?_) | refine z_I (kk := fun _ => ?_) | refine z_J (kk := fun _ => ?_) | refine z_K (kk := fun _ => ?_) | refine z_L (kk := fun _ => ?_) | refine z_T (kk := ?_) | refine z_F (kk := ?_) | refine z_k (kk := fun _ _ _ _ _ => ?_) | refine z_w (kk := fun _ _ => ?_) | refine z_s (kk := fun _ _ _ _ => ?_) | refine z_D (kk := ?_) | refine z_g (kk := ?_) | refine z_h (kk := ?_)))
        exact W.endl ⟨_, _, ⟨⟨40, os, rfl, rfl, hO, .inr (.inl ⟨rfl, hB⟩)⟩, by omega⟩, (by repeat (first | exact trivial | refine And.intro rfl ?_))⟩
    · have hol := hB.seg.len
      have hcl := symMerge_c (K := K) (cv := cv) hvf hfm 61 (a := 0) (m := 40) (b := n) (by omega) hO hGs (by omega) (by omega) (by omega) (by omega) (fun p q h1 h2 h3 h4 => by
        obtain ⟨y, z, y1, y2, y3, y4⟩ := hB.ord (show p < n by omega) (show q < n by omega) (by omega)
        rw [y3, y4]; exact hcc y z y1 y2) (fun p q h1 h2 h3 => hB.srt p q h2 (by omega) (by omega)) (fun p q h1 h2 h3 => hB.srt p q h2 (by omega) (by omega))
      (repeat (first | with_reducible refine W.seq ?_ | with_reducible refine Ops.nil ?_ | with_reducible refine W.region ?_ | refine z_p (kk := ?_) | refine z_a (kk := ?_) | refine z_y (kk := ?_) | refine z_n (kk := ?_) | refine z_u (kk := ?_) | with_reducible refine W.skip ?_ | with_reducible refine W.endb ?_ | with_reducible refine W.block ?_ | refine W.exit rfl ?_ | refine z_l (kk := ?_) | refine z_f (kk := ?_) | refine z_M (kk := ?_) | refine z_m (kk := ?_) | refine z_e (kk := ?_) | refine z_E (kk := ?_) | refine z_d (kk := ?_) | refine z_I (kk := fun _ => ?_) | refine z_J (kk := fun _ => ?_) | refine z_K (kk := fun _ => ?_) | refine z_L (kk := fun _ => ?_) | refine z_T (kk := ?_) | refine z_F (kk := ?_) | refine z_k (kk := fun _ _ _ _ _ => ?_) | refine z_w (kk := fun _ _ => ?_) | refine z_s (kk := fun _ _ _ _ => ?_) | refine z_D (kk := ?_) | refine z_g (kk := ?_) | refine z_h (kk := ?_)))
      refine W.condT rfl (by first | rfl | assumption | (simp only [bnf] <;> omega) | (simp only [*, bnf]; done) | fail) ?_
      (repeat (first | with_reducible refine W.seq ?_ | with_reducible refine Ops.nil ?_ | with_reducible refine W.region ?_ | refine z_p (kk := ?_) | refine z_a (kk := ?_) | refine z_y (kk := ?_) | refine z_n (kk := ?_) | refine z_u (kk := ?_) | with_reducible refine W.skip ?_ | with_reducible refine W.endb ?_ | with_reducible refine W.block ?_ | refine W.exit rfl ?_ | refine z_l (kk := ?_) | refine z_f (kk := ?_) | refine z_M (kk := ?_) | refine z_m (kk := ?_) | refine z_e (kk := ?_) | refine z_E (kk := ?_) | refine z_d (kk := ?_) | refine z_I (kk := fun _ => ?_) | refine z_J (kk := fun _ => ?_) | refine z_K (kk := fun _ => ?_) | refine z_L (kk := fun _ => ?_) | refine z_T (kk := ?_) | refine z_F (kk := ?_) | refine z_k (kk := fun _ _ _ _ _ => ?_) | refine z_w (kk := fun _ _ => ?_) | refine z_s (kk := fun _ _ _ _ => ?_) | refine z_D (kk := ?_) | refine z_g (kk := ?_) | refine z_h (kk := ?_)))
      refine W.loop (fun z ρ w2 => z = 0 ∧ ρ = [(0, .slice A os0.length c), (1, .int .i64 n), (2, vf), (6, .int .i64 40), (7, .int .i64 0), (8, .int .i64 80)] ∧ w2 = w1)
        ⟨_, _, ⟨rfl, rfl, rfl⟩, (by repeat (first | exact trivial | refine And.intro rfl ?_))⟩ ?_
      rintro z ρ w2 ⟨rfl, rfl, rfl⟩
      (repeat (first | with_reducible refine W.seq ?_ | with_reducible refine Ops.nil ?_ | with_reducible refine W.region ?_ | refine z_p (kk := ?_) | refine z_a (kk := ?_) | refine z_y (kk := ?_) | refine z_n (kk := ?_) | refine z_u (kk := ?_) | with_reducible refine W.skip ?_ | with_reducible refine W.endb ?_ | with_reducible refine W.block ?_ | refine W.exit rfl ?_ | refine z_l (kk := ?_) | refine z_f (kk := ?_) | refine z_M (kk := ?_) | refine z_m (kk := ?_) | refine z_e (kk := ?_) | refine z_E (kk := ?_) | refine z_d (kk := ?_) | refine z_I (kk := fun _ => ?_) | refine z_J (kk := fun _ => ?_) | refine z_K (kk := fun _ => ?_) | refine z_L (kk := fun _ => ?_) | refine z_T (kk := ?_) | refine z_F (kk := ?_) | refine z_k (kk := fun _ _ _ _ _ => ?_) | refine z_w (kk := fun _ _ => ?_) | refine z_s (kk := fun _ _ _ _ => ?_) | refine z_D (kk := ?_) | refine z_g (kk := ?_) | refine z_h (kk := ?_)))
      refine W.condF rfl (by first | rfl | assumption | (simp only [bnf] <;> omega) | (simp only [*, bnf]; done) | fail) ?_
      (repeat (first | with_reducible refine W.seq ?_ | with_reducible refine Ops.nil ?_ | with_reducible refine W.region ?_ | refine z_p (kk := ?_) | refine z_a (kk := ?_) | refine z_y (kk := ?_) | refine z_n (kk := ?_) | refine z_u (kk := ?_) | with_reducible refine W.skip ?_ | with_reducible refine W.endb ?_ | with_reducible refine W.block ?_ | refine W.exit rfl ?_ | refine z_l (kk := ?_) | refine z_f (kk := ?_) | refine z_M (kk := ?_) | refine z_m (kk := ?_) | refine z_e (kk := ?_) | refine z_E (kk := ?_) | refine z_d (kk := ?_) | refine z_I (kk := fun _ => ?_) | refine z_J (kk := fun _ => ?_) | refine z_K (kk := fun _ => ?_) | refine z_L (kk := fun _ => ?_) | refine z_T (kk := ?_) | refine z_F (kk := ?_) | refine z_k (kk := fun _ _ _ _ _ => ?_) | refine z_w (kk := fun _ _ => ?_) | refine z_s (kk := fun _ _ _ _ => ?_) | refine z_D (kk := ?_) | refine z_g (kk := ?_) | refine z_h (kk := ?_)))
      refine W.condT rfl (by first | rfl | assumption | (simp only [bnf] <;> omega) | (simp only [*, bnf]; done) | fail) ?_
      (repeat (first | with_reducible refine W.seq ?_ | with_reducible refine Ops.nil ?_ | with_reducible refine W.region ?_ | refine z_p (kk := ?_) | refine z_a (kk := ?_) | refine z_y (kk := ?_) | refine z_n (kk := ?_) | refine z_u (kk := ?_) | with_reducible refine W.skip ?_ | with_reducible refine W.endb ?_ | with_reducible refine W.block ?_ | refine W.exit rfl ?_ | refine z_l (kk := ?_) | refine z_f (kk := ?_) | refine z_M (kk := ?_) | refine z_m (kk := ?_) | refine z_e (kk := ?_) | refine z_E (kk := ?_) | refine z_d (kk := ?_) | refine z_I (kk := fun _ => ?_) | refine z_J (kk := fun _ => ?_) | refine z_K (kk := fun _ => ?_) | refine z_L (kk := fun _ => ?_) | refine z_T (kk := ?_) | refine z_F (kk := ?_) | refine z_k (kk := fun _ _ _ _ _ => ?_) | refine z_w (kk := fun _ _ => ?_) | refine z_s (kk := fun _ _ _ _ => ?_) | refine z_D (kk := ?_) | refine z_g (kk := ?_) | refine z_h (kk := ?_)))
      refine Ops.call rfl rfl rfl rfl rfl hcl (fun v w2 hR2 => ?_)
      obtain ⟨os1, hO1, hS1, hK1⟩ := hR2
      have hB' := hB.all (bs' := 80) hS1 hK1 (by omega)
      (repeat (first | with_reducible refine W.seq ?_ | with_reducible refine Ops.nil ?_ | with_reducible refine W.region ?_ | refine z_p (kk := ?_) | refine z_a (kk := ?_) | refine z_y (kk := ?_) | refine z_n (kk := ?_) | refine z_u (kk := ?_) | with_reducible refine W.skip ?_ | with_reducible refine W.endb ?_ | with_reducible refine W.block ?_ | refine W.exit rfl ?_ | refine z_l (kk := ?_) | refine z_f (kk := ?_) | refine z_M (kk := ?_) | refine z_m (kk := ?_) | refine z_e (kk := ?_) | refine z_E (kk := ?_) | refine z_d (kk := ?_) | refine z_I (kk := fun _ => ?_) | refine z_J (kk := fun _ => ?_) | refine z_K (kk := fun _ => ?_) | refine z_L (kk := fun _ => ?_) | refine z_T (kk := ?_) | refine z_F (kk := ?_) | refine z_k (kk := fun _ _ _ _ _ => ?_) | refine z_w (kk := fun _ _ => ?_) | refine z_s (kk := fun _ _ _ _ => ?_) | refine z_D (kk := ?_) | refine z_g (kk := ?_) | refine z_h (kk := ?_)))
      exact W.endl ⟨_, _, ⟨⟨80, os1, rfl, rfl, hO1, .inr (.inr ⟨rfl, hB'⟩)⟩, by omega⟩, (by repeat (first | exact trivial | refine And.intro rfl ?_))⟩
    · omega
  · have hfin : SegP 0 n os0 os ∧ SortK K os 0 n := by
      rcases hB with ⟨rfl, hB⟩ | ⟨rfl, hB⟩ | ⟨rfl, hB⟩
      · exact ⟨hB.seg, hB.sorted (by omega)⟩
      · exact ⟨hB.seg, hB.sorted (by omega)⟩
      · exact ⟨hB.seg, hB.sorted (by omega)⟩
    (repeat (first | with_reducible refine W.seq ?_ | with_reducible refine Ops.nil ?_ | with_reducible refine W.region ?_ | refine z_p (kk := ?_) | refine z_a (kk := ?_) | refine z_y (kk := ?_) | refine z_n (kk := ?_) | refine z_u (kk := ?_) | with_reducible refine W.skip ?_ | with_reducible refine W.endb ?_ | with_reducible refine W.block ?_ | refine W.exit rfl ?_ | refine z_l (kk := ?_) | refine z_f (kk := ?_) | refine z_M (kk := ?_) | refine z_m (kk := ?_) | refine z_e (kk := ?_) | refine z_E (kk := ?_) | refine z_d (kk := ?_) | refine z_I (kk := fun _ => ?_) | refine z_J (kk := fun _ => ?_) | refine z_K (kk := fun _ => ?_) | refine z_L (kk := fun _ => ?_) | refine z_T (kk := ?_) | refine z_F (kk := ?_) | refine z_k (kk := fun _ _ _ _ _ => ?_) | refine z_w (kk := fun _ _ => ?_) | refine z_s (kk := fun _ _ _ _ => ?_) | refine z_D (kk := ?_) | refine z_g (kk := ?_) | refine z_h (kk := ?_)))
    refine W.condF rfl (by first | rfl | assumption | (simp only [bnf] <;> omega) | (simp only [*, bnf]; done) | fail) ?_
    (repeat (first | with_reducible refine W.seq ?_ | with_reducible refine Ops.nil ?_ | with_reducible refine W.region ?_ | refine z_p (kk := ?_) | refine z_a (kk := ?_) | refine z_y (kk := ?_) | refine z_n (kk := ?_) | refine z_u (kk := ?_) | with_reducible refine W.skip ?_ | with_reducible refine W.endb ?_ | with_reducible refine W.block ?_ | refine W.exit rfl ?_ | refine z_l (kk := ?_) | refine z_f (kk := ?_) | refine z_M (kk := ?_) | refine z_m (kk := ?_) | refine z_e (kk := ?_) | refine z_E (kk := ?_) | refine z_d (kk := ?_) | refine z_I (kk := fun _ => ?_) | refine z_J (kk := fun _ => ?_) | refine z_K (kk := fun _ => ?_) | refine z_L (kk := fun _ => ?_) | refine z_T (kk := ?_) | refine z_F (kk := ?_) | refine z_k (kk := fun _ _ _ _ _ => ?_) | refine z_w (kk := fun _ _ => ?_) | refine z_s (kk := fun _ _ _ _ => ?_) | refine z_D (kk := ?_) | refine z_g (kk := ?_) | refine z_h (kk := ?_)))
    exact W.fend rfl ⟨os, hO, hfin⟩
theorem sortStable_c {G : World → Prop} {wB w : World} {ov vf : Value} {os0 : List Int} {fc : Nat} {first cap : List Value} {cv : Int → Int → Int} {K : Int → Int} (hO : OH G wB w ov os0) (hGs : Gst G ov) (hl : os0.length < 60) (hvf : vf = .func (.func fc) first.toArray cap.toArray) (hfm : memB (Fns.L Try.prog) fc = true)
    (hcc : ∀ p q : Nat, p < q → q < os0.length → Cmp G wB fc first cap cv K (os0.getD p 0) (os0.getD q 0)) :
    Calls Try.prog 88 #[ov, vf] w (Ret fun r w' => ∃ os, OH G wB w' ov os ∧ SegP 0 os0.length os0 os ∧ SortK K os 0 os0.length) := by
  obtain ⟨A, c, rfl⟩ := hO.sh
  refine calls_W (vs := [_, _]) Try.func88 rfl (by kernel_rfl) rfl ?_
  (repeat (first | with_reducible refine W.seq ?_ | with_reducible refine Ops.nil ?_ | with_reducible refine W.region ?_ | refine z_p (kk := ?_) | refine z_a (kk := ?_) | refine z_y (kk := ?_) | refine z_n (kk := ?_) | refine z_u (kk := ?_) | with_reducible refine W.skip ?_ | with_reducible refine W.endb ?_ | with_reducible refine W.block ?_ | refine W.exit rfl ?_ | refine z_l (kk := ?_) | refine z_f (kk := ?_) | refine z_M (kk := ?_) | refine z_m (kk := ?_) | refine z_e (kk := ?_) | refine z_E (kk := ?_) | refine z_d (kk := ?_) | refine z_I (kk := fun _ => ?_) | refine z_J (kk := fun _ => ?_) | refine z_K (kk := fun _ => ?_) | refine z_L (kk := fun _ => ?_) | refine z_T (kk := ?_) | refine z_F (kk := ?_) | refine z_k (kk := fun _ _ _ _ _ => ?_) | refine z_w (kk := fun _ _ => ?_) | refine z_s (kk := fun _ _ _ _ => ?_) | refine z_D (kk := ?_) | refine z_g (kk := ?_) | refine z_h (kk := ?_)))
  refine Ops.call rfl rfl rfl rfl rfl (stable_c hO hGs rfl hl hvf hfm hcc) (fun v w2 hR2 => ?_)
  (repeat (first | with_reducible refine W.seq ?_ | with_reducible refine Ops.nil ?_ | with_reducible refine W.region ?_ | refine z_p (kk := ?_) | refine z_a (kk := ?_) | refine z_y (kk := ?_) | refine z_n (kk := ?_) | refine z_u (kk := ?_) | with_reducible refine W.skip ?_ | with_reducible refine W.endb ?_ | with_reducible refine W.block ?_ | refine W.exit rfl ?_ | refine z_l (kk := ?_) | refine z_f (kk := ?_) | refine z_M (kk := ?_) | refine z_m (kk := ?_) | refine z_e (kk := ?_) | refine z_E (kk := ?_) | refine z_d (kk := ?_) | refine z_I (kk := fun _ => ?_) | refine z_J (kk := fun _ => ?_) | refine z_K (kk := fun _ => ?_) | refine z_L (kk := fun _ => ?_) | refine z_T (kk := ?_) | refine z_F (kk := ?_) | refine z_k (kk := fun _ _ _ _ _ => ?_) | refine z_w (kk := fun _ _ => ?_) | refine z_s (kk := fun _ _ _ _ => ?_) | refine z_D (kk := ?_) | refine z_g (kk := ?_) | refine z_h (kk := ?_)))
  exact W.fend rfl hR2
end Go.Proofs.Ytdiljpnfochndaa
namespace Go.Proofs.Ytdiljpnfochndaa
open Go Go.RowKit Go.Proofs.Ytdiljpnfochndaa.VW
open Go.Proofs.Ytdiljpnfochndaa.HP (Nd kid wor leafB)
attribute [local irreducible] W Ops OrdA VW.Ord OrdX
theorem sl_kp' {α : Type} {enc : α → Value} {z : α} {w w' : World} {v : Value} {xs : List α} {S : Nat → Prop} (h : Sl enc z w v xs) (k : Kp S w w') (hs : 0 < xs.length → ∀ i, v.ownBlock = some i → ¬ S i) : Sl enc z w' v xs := by
  by_cases hp : 0 < xs.length
  · exact h.kp k (hs hp)
  · obtain ⟨h1, A, c, e, _⟩ := h
    exact ⟨h1, A, c, e, fun h => absurd h hp⟩
/-! ### Trees of the call's own -/
def flat : List Value → List Nd → List Value
  | c :: cs, x :: xs => c :: .int .i64 x.2 :: flat cs xs
  | _, _ => []
theorem flat_snoc : ∀ (cs : List Value) (xs : List Nd) (c : Value) (x : Nd), cs.length = xs.length → flat (cs ++ [c]) (xs ++ [x]) = flat cs xs ++ [c, .int .i64 x.2]
  | [], [], _, _, _ => rfl
  | a :: cs, y :: xs, c, x, h => by
    simp only [List.cons_append, flat]
    rw [flat_snoc cs xs c x (by simpa using h)]
  | [], _ :: _, _, _, h => by simp at h
  | _ :: _, [], _, _, h => by simp at h
theorem flat_at : ∀ (cs : List Value) (xs : List Nd) (j : Nat), cs.length = xs.length → j < xs.length → (flat cs xs).getD (j * 2) undef = cs.getD j undef ∧ (flat cs xs).getD (j * 2 + 1) undef = .int .i64 (xs.getD j ([], 0)).2
  | [], [], _, _, h => by simp at h
  | a :: cs, y :: xs, 0, h, _ => by simp [flat]
  | a :: cs, y :: xs, j + 1, h, hj => by
    have := flat_at cs xs j (by simpa using h) (by simpa using hj)
    rw [show (j + 1) * 2 = j * 2 + 1 + 1 by omega]
    simp only [flat, List.getD_cons_succ]
    exact this
  | [], _ :: _, _, h, _ => by simp at h
  | _ :: _, [], _, h, _ => by simp at h
structure TO (w0 w : World) (ov : Value) (tr : List Nd) (cvs : List Value) : Prop where
  bel : Below w0.heap.size w0 w
  ge : ∀ k, ov.ownBlock = some k → w0.heap.size ≤ k
  len : cvs.length = tr.length
  row : w.ownsRow 0 47 2 ov tr.length (flat cvs tr)
  kids : ∀ j, j < tr.length → SlI w (cvs.getD j undef) (tr.getD j ([], 0)).1 ∧ (0 < (tr.getD j ([], 0)).1.length → ∀ i, (cvs.getD j undef).ownBlock = some i → ov.ownBlock ≠ some i)
theorem TO.nil {w0 w : World} (h : Below w0.heap.size w0 w) : TO w0 w (.slice none 0 0) [] [] := ⟨h, fun k hk => by simp [Value.ownBlock] at hk, rfl, World.ownsRow_nil w 0 47 2, fun j hj => by simp at hj⟩
theorem TO.below {w0 w w' : World} {ov : Value} {tr : List Nd} {cvs : List Value} (h : TO w0 w ov tr cvs) (k : Below w.heap.size w w') : TO w0 w' ov tr cvs :=
  ⟨Below.via h.bel k, h.ge, h.len, own_kp h.row (Kp.of_below (S := fun _ => False) k) (fun _ _ e => e), fun j hj => ⟨Sl.below (h.kids j hj).1 k, (h.kids j hj).2⟩⟩
theorem TO.push {w0 w w' : World} {ov ov' cv : Value} {tr : List Nd} {cvs : List Value} {xs : List Int} {x : Int} (h : TO w0 w ov tr cvs) (hk : SlI w cv xs) (hne : 0 < xs.length → ∀ i, cv.ownBlock = some i → ov.ownBlock ≠ some i)
    (hrow : w'.ownsRow 0 47 2 ov' (tr.length + 1) (flat cvs tr ++ [cv, .int .i64 x])) (k : Kp (fun i => ov.ownBlock = some i) w w') (hn : ∀ i, ov'.ownBlock = some i → ov.ownBlock = some i ∨ w.heap.size ≤ i) : TO w0 w' ov' (tr ++ [(xs, x)]) (cvs ++ [cv]) := by
  have hl := h.len
  refine ⟨Below.put h.bel k (fun i hi => h.ge i hi), fun i hi => ?_, by simp [hl], ?_, fun j hj => ?_⟩
  · rcases hn i hi with e | e
    · exact h.ge i e
    · have := h.bel.size; omega
  · rw [flat_snoc _ _ _ _ hl, List.length_append, List.length_singleton]
    exact hrow
  · have hgen : ∀ (v : Value) (ys : List Int), SlI w v ys → (0 < ys.length → ∀ i, v.ownBlock = some i → ov.ownBlock ≠ some i) → SlI w' v ys ∧ (0 < ys.length → ∀ i, v.ownBlock = some i → ov'.ownBlock ≠ some i) := fun v ys hv hs => by
      refine ⟨sl_kp' hv k (fun hp i hi e => hs hp i hi e), fun hp i hi e => ?_⟩
      rcases hn i e with e2 | e2
      · exact hs hp i hi e2
      · have := Sl.lt hv hp hi; omega
    rw [List.length_append, List.length_singleton] at hj
    by_cases e : j = tr.length
    · subst e
      rw [app_last hl.symm, app_last rfl]
      exact hgen cv xs hk hne
    · rw [app_getD (by omega), app_getD (by omega)]
      exact hgen _ _ (h.kids j (by omega)).1 (h.kids j (by omega)).2
theorem TO.treeM {w0 w : World} {ov : Value} {tr : List Nd} {cvs : List Value} (h : TO w0 w ov tr cvs) : TreeM w ov tr := by
  by_cases hp : 0 < tr.length
  · obtain ⟨g, cap, rfl, hc⟩ := own_at h.row hp
    refine ⟨some ⟨g, 0, none⟩, cap, cvs, rfl, fun _ => ⟨_, rfl, fun j hj => ?_⟩, fun j hj => (h.kids j hj).1⟩
    have hf := flat_at cvs tr j h.len hj
    rw [add_lit, add_lit, Nat.zero_add]
    exact ⟨by rw [hc _ (by omega), hf.1], by rw [hc _ (by omega), hf.2]⟩
  · have h0 : tr = [] := List.eq_nil_of_length_eq_zero (by omega)
    subst h0
    rcases h.row.2 with ⟨h1, _⟩ | ⟨g, cap, cur, h1, _⟩
    · exact ⟨none, 0, cvs, h1, fun h => by simp at h, fun j hj => by simp at hj⟩
    · exact ⟨_, cap, cvs, h1, fun h => by simp at h, fun j hj => by simp at hj⟩
/-! ### Arguments -/
/-- A tree that comes in. -/
def ArgT (w : World) (v : Value) (l : List Nd) : Prop :=
  TreeM w v l ∧ l.length ≤ 9223372036854775807 ∧ ∀ i : Int, 0 ≤ i → i < l.length → ∃ a c A' c', v = .slice (some a) l.length c ∧ SlI w (.slice A' (kid l i).length c') (kid l i) ∧ (kid l i).length ≤ c' ∧
    (∀ w', Below w.heap.size w w' → w'.cell? (a.add (i.toNat * 2)) = some (.slice A' (kid l i).length c') ∧ w'.cell? ((a.add (i.toNat * 2)).add 1) = some (.int .i64 (wor l i)))
def Arg (w : World) (v : Value) (xs : List Int) : Prop := SlI w v xs ∧ ∃ A c, v = .slice A xs.length c ∧ xs.length ≤ c
theorem sl_take {α : Type} {enc : α → Value} {z : α} {w : World} {A : Option Addr} {m c : Nat} {xs : List α} (h : Sl enc z w (.slice A m c) xs) (q : Nat) (hq : q ≤ xs.length) : Sl enc z w (.slice A q c) (xs.take q) := by
  obtain ⟨h1, A', c', e, h2⟩ := h
  cases e
  have hl : (xs.take q).length = q := by rw [List.length_take]; omega
  refine ⟨by omega, A, c, by rw [hl], fun hp => ?_⟩
  obtain ⟨a, rfl, hc⟩ := h2 (by omega)
  refine ⟨a, rfl, fun j hj => ?_⟩
  rw [hc j (by omega)]
  simp [List.getD_eq_getElem?_getD, List.getElem?_take, show j < q by omega]
theorem list_c {w : World} {v : Value} {xs : List Int} (h : Arg w v xs) : Calls Try.prog 29 #[v] w (Ret fun r w' => OI 3 (Value.int .i64) w w' r (xs.take 61)) := by
  obtain ⟨hs, A, c, rfl, hc⟩ := h
  have hxl := Sl.len hs
  have hmin : min (xs.length : Int) 61 = ((min xs.length 61 : Nat) : Int) := by omega
  have htk : xs.take (min xs.length 61) = xs.take 61 := by
    rcases Nat.le_total xs.length 61 with h | h
    · rw [Nat.min_eq_left h, List.take_of_length_le (Nat.le_refl _), List.take_of_length_le h]
    · rw [Nat.min_eq_right h]
  refine calls_W (vs := [_]) Try.func29 rfl (by kernel_rfl) rfl ?_
  (repeat (first | with_reducible refine W.seq ?_ | with_reducible refine Ops.nil ?_ | with_reducible refine W.region ?_ | refine z_p (kk := ?_) | refine z_a (kk := ?_) | refine z_y (kk := ?_) | refine z_n (kk := ?_) | refine z_u (kk := ?_) | with_reducible refine W.skip ?_ | with_reducible refine W.endb ?_ | with_reducible refine W.block ?_ | refine W.exit rfl ?_ | refine z_l (kk := ?_) | refine z_f (kk := ?_) | refine z_M (kk := ?_) | refine z_m (kk := ?_) | refine z_e (kk := ?_) | refine z_E (kk := ?_) | refine z_d (kk := ?_) | refine z_I (kk := fun _ => ?_) | refine z_J (kk := fun _ => ?_) | refine z_K (kk := fun _ => ?_) | refine z_L (kk := fun _ => ?_) | refine z_T (kk := ?_) | refine z_F (kk := ?_) | refine z_k (kk := fun _ _ _ _ _ => ?_) | refine z_w (kk := fun _ _ => ?_) | refine z_s (kk := fun _ _ _ _ => ?_) | refine z_g (kk := ?_) | refine z_h (kk := ?_)))
  rw [hmin]
  refine Ops.slH rfl rfl rfl rfl rfl rfl rfl (by omega) (by omega) ?_
  rw [Int.toNat_natCast]
  refine Ops.appO (enc := Value.int .i64) (w0 := w) 0 rfl rfl rfl rfl rfl rfl rfl rfl rfl rfl (OI.nil (Below.refl _ _)) (sl_take hs (min xs.length 61) (by omega)) (Below.refl _ _) (fun _ => rfl) (by simp; omega) (fun v' w' hO _ _ => ?_)
  rw [htk, List.nil_append] at hO
  (repeat (first | with_reducible refine W.seq ?_ | with_reducible refine Ops.nil ?_ | with_reducible refine W.region ?_ | refine z_p (kk := ?_) | refine z_a (kk := ?_) | refine z_y (kk := ?_) | refine z_n (kk := ?_) | refine z_u (kk := ?_) | with_reducible refine W.skip ?_ | with_reducible refine W.endb ?_ | with_reducible refine W.block ?_ | refine W.exit rfl ?_ | refine z_l (kk := ?_) | refine z_f (kk := ?_) | refine z_M (kk := ?_) | refine z_m (kk := ?_) | refine z_e (kk := ?_) | refine z_E (kk := ?_) | refine z_d (kk := ?_) | refine z_I (kk := fun _ => ?_) | refine z_J (kk := fun _ => ?_) | refine z_K (kk := fun _ => ?_) | refine z_L (kk := fun _ => ?_) | refine z_T (kk := ?_) | refine z_F (kk := ?_) | refine z_k (kk := fun _ _ _ _ _ => ?_) | refine z_w (kk := fun _ _ => ?_) | refine z_s (kk := fun _ _ _ _ => ?_) | refine z_g (kk := ?_) | refine z_h (kk := ?_)))
  exact W.fret rfl hO
def treeM (l : List Nd) : List Nd := (l.take 61).map fun x => (x.1.take 61, x.2)
theorem treeM_len (l : List Nd) : (treeM l).length = min 61 l.length := by simp [treeM]
theorem treeM_succ {l : List Nd} {i : Nat} (h : i < l.length) : (l.take (i + 1)).map (fun x : Nd => (x.1.take 61, x.2)) = (l.take i).map (fun x : Nd => (x.1.take 61, x.2)) ++ [((kid l i).take 61, wor l i)] := by
  rw [List.take_succ_eq_append_getElem h, List.map_append]
  simp [kid, wor, List.getD_eq_getElem?_getD, h]
set_option maxHeartbeats 2000000 in
theorem tree_c {w : World} {v : Value} {l : List Nd} (h : ArgT w v l) : Calls Try.prog 17 #[v] w (Ret fun r w' => Below w.heap.size w w' ∧ TreeM w' r (treeM l)) := by
  obtain ⟨hT, hll, hA⟩ := h
  obtain ⟨At, ct, rfl⟩ := hT.sl
  refine calls_W (vs := [_]) Try.func17 rfl (by kernel_rfl) rfl ?_
  (repeat (first | with_reducible refine W.seq ?_ | with_reducible refine Ops.nil ?_ | with_reducible refine W.region ?_ | refine z_p (kk := ?_) | refine z_a (kk := ?_) | refine z_y (kk := ?_) | refine z_n (kk := ?_) | refine z_u (kk := ?_) | with_reducible refine W.skip ?_ | with_reducible refine W.endb ?_ | with_reducible refine W.block ?_ | refine W.exit rfl ?_ | refine z_l (kk := ?_) | refine z_f (kk := ?_) | refine z_M (kk := ?_) | refine z_m (kk := ?_) | refine z_e (kk := ?_) | refine z_E (kk := ?_) | refine z_d (kk := ?_) | refine z_I (kk := fun _ => ?_) | refine z_J (kk := fun _ => ?_) | refine z_K (kk := fun _ => ?_) | refine z_L (kk := fun _ => ?_) | refine z_T (kk := ?_) | refine z_F (kk := ?_) | refine z_k (kk := fun _ _ _ _ _ => ?_) | refine z_w (kk := fun _ _ => ?_) | refine z_s (kk := fun _ _ _ _ => ?_) | refine z_g (kk := ?_) | refine z_h (kk := ?_)))
  refine W.loop (fun m ρ w3 => ∃ (i : Nat) (ov : Value) (cvs : List Value), m = l.length - i ∧ i ≤ l.length ∧ i ≤ 61 ∧ ρ = [(0, .slice At l.length ct), (3, ov), (4, .int .i64 i)] ∧ TO w w3 ov ((l.take i).map fun x => (x.1.take 61, x.2)) cvs)
    ⟨_, _, ⟨0, _, _, rfl, Nat.zero_le _, Nat.zero_le _, rfl, TO.nil (Below.refl _ _)⟩, (by repeat (first | exact trivial | refine And.intro rfl ?_))⟩ ?_
  rintro m ρ w3 ⟨i, ov, cvs, rfl, hi, hi2, rfl, hO⟩
  have hb3 := hO.bel
  by_cases hgo : i < l.length ∧ i ≤ 60
  · obtain ⟨g1, g2⟩ := hgo
    (repeat (first | with_reducible refine W.seq ?_ | with_reducible refine Ops.nil ?_ | with_reducible refine W.region ?_ | refine z_p (kk := ?_) | refine z_a (kk := ?_) | refine z_y (kk := ?_) | refine z_n (kk := ?_) | refine z_u (kk := ?_) | with_reducible refine W.skip ?_ | with_reducible refine W.endb ?_ | with_reducible refine W.block ?_ | refine W.exit rfl ?_ | refine z_l (kk := ?_) | refine z_f (kk := ?_) | refine z_M (kk := ?_) | refine z_m (kk := ?_) | refine z_e (kk := ?_) | refine z_E (kk := ?_) | refine z_d (kk := ?_) | refine z_I (kk := fun _ => ?_) | refine z_J (kk := fun _ => ?_) | refine z_K (kk := fun _ => ?_) | refine z_L (kk := fun _ => ?_) | refine z_T (kk := ?_) | refine z_F (kk := ?_) | refine z_k (kk := fun _ _ _ _ _ => ?_) | refine z_w (kk := fun _ _ => ?_) | refine z_s (kk := fun _ _ _ _ => ?_) | refine z_g (kk := ?_) | refine z_h (kk := ?_)))
    refine W.condT rfl (by first | rfl | assumption | (simp only [bnf] <;> omega) | (simp only [*, bnf]; done) | fail) ?_
    (repeat (first | with_reducible refine W.seq ?_ | with_reducible refine Ops.nil ?_ | with_reducible refine W.region ?_ | refine z_p (kk := ?_) | refine z_a (kk := ?_) | refine z_y (kk := ?_) | refine z_n (kk := ?_) | refine z_u (kk := ?_) | with_reducible refine W.skip ?_ | with_reducible refine W.endb ?_ | with_reducible refine W.block ?_ | refine W.exit rfl ?_ | refine z_l (kk := ?_) | refine z_f (kk := ?_) | refine z_M (kk := ?_) | refine z_m (kk := ?_) | refine z_e (kk := ?_) | refine z_E (kk := ?_) | refine z_d (kk := ?_) | refine z_I (kk := fun _ => ?_) | refine z_J (kk := fun _ => ?_) | refine z_K (kk := fun _ => ?_) | refine z_L (kk := fun _ => ?_) | refine z_T (kk := ?_) | refine z_F (kk := ?_) | refine z_k (kk := fun _ _ _ _ _ => ?_) | refine z_w (kk := fun _ _ => ?_) | refine z_s (kk := fun _ _ _ _ => ?_) | refine z_g (kk := ?_) | refine z_h (kk := ?_)))
    obtain ⟨a, c, A', c', e, hsl, hcap, hcell⟩ := hA i (by omega) (by omega)
    cases e
    refine W.ord (hm := rfl) 99 (fun w' => Below w.heap.size w w') [(0, 1), (1, 1), (2, 1), (3, 1), (4, 1), (5, 2), (7, 1), (8, 1), (9, 1), (10, 1), (11, 2), (6, 0), (12, 1), (13, 0), (14, 0), (15, 1)] (by kernel_rfl) rfl (by kernel_rfl) (fun w4 k4 _ => ⟨Below.put hb3 k4 (fun _ e => e.elim), ?_⟩)
    have hO4 := hO.below (Kp.below k4 (Nat.le_refl _) (fun _ _ e => e))
    (repeat (first | refine y_p (kk := ?_) | refine y_n (kk := ?_) | refine y_a (kk := ?_) | refine y_l (kk := ?_) | refine y_M (kk := ?_) | refine y_m (kk := ?_) | refine y_e (kk := ?_) | refine y_E (kk := ?_) | refine y_T (kk := ?_) | refine y_F (kk := ?_) | refine y_I (kk := fun _ => ?_) | refine y_J (kk := fun _ => ?_) | refine y_K (kk := fun _ => ?_) | refine y_L (kk := fun _ => ?_) | refine y_t (kk := ?_) | refine y_f (kk := ?_)))
    refine VW.Ord.pure rfl rfl rfl rfl (fun _ _ _ h => h) (fun w => EV.idx rfl rfl rfl rfl rfl (by omega) (by omega)) ?_
    refine VW.Ord.pure rfl rfl rfl rfl (fun _ _ _ h => h) (fun w => EV.fld rfl rfl (ev_top _ _ _)) ?_
    rw [add_zero']
    refine VW.Ord.read' rfl rfl rfl rfl (fun _ _ _ h => h) (fun w hw => EV.ld rfl rfl (ev_top _ _ _) (hcell w hw).1) ?_
    (repeat (first | refine y_p (kk := ?_) | refine y_n (kk := ?_) | refine y_a (kk := ?_) | refine y_l (kk := ?_) | refine y_M (kk := ?_) | refine y_m (kk := ?_) | refine y_e (kk := ?_) | refine y_E (kk := ?_) | refine y_T (kk := ?_) | refine y_F (kk := ?_) | refine y_I (kk := fun _ => ?_) | refine y_J (kk := fun _ => ?_) | refine y_K (kk := fun _ => ?_) | refine y_L (kk := fun _ => ?_) | refine y_k (kk := fun _ _ _ _ _ => ?_) | refine y_w (kk := fun _ _ => ?_) | refine y_s (kk := fun _ _ _ _ => ?_) | refine y_t (kk := ?_) | refine y_f (kk := ?_)))
    refine VW.Ord.effF rfl (Ops.call rfl rfl rfl rfl rfl (list_c ⟨Sl.below hsl hO4.bel, A', c', rfl, hcap⟩) (fun r w5 hR => Ops.nil (W.endl ⟨Below.via hO4.bel hR.bel, ?_⟩)))
    have hO5 := hO4.below hR.bel
    have hr1 : r.oneCell' = true := by obtain ⟨A, c, rfl⟩ := hR.sh; rfl
    refine VW.Ord.pure rfl rfl rfl rfl (fun _ _ _ h => h) (fun w => EV.bld2 rfl rfl rfl rfl rfl hr1 rfl) ?_
    refine VW.Ord.push2 (w0 := w) rfl rfl rfl rfl rfl rfl rfl rfl rfl rfl rfl rfl rfl (fun _ => rfl) hr1 rfl hO5.row (by simp; omega) below_F hO5.bel hO5.ge (fun lv' p w6 hF6 hrow k6 hn6 => ?_)
    have hO6 := hO5.push (hR.sl (z := (0 : Int))) (fun hp j hj e => by have := hR.ge j hj; have := (hO4.row.lt j e).2; omega) hrow k6 hn6
    rw [← treeM_succ g1] at hO6
    (repeat (first | refine y_p (kk := ?_) | refine y_n (kk := ?_) | refine y_a (kk := ?_) | refine y_l (kk := ?_) | refine y_M (kk := ?_) | refine y_m (kk := ?_) | refine y_e (kk := ?_) | refine y_E (kk := ?_) | refine y_T (kk := ?_) | refine y_F (kk := ?_) | refine y_I (kk := fun _ => ?_) | refine y_J (kk := fun _ => ?_) | refine y_K (kk := fun _ => ?_) | refine y_L (kk := fun _ => ?_) | refine y_k (kk := fun _ _ _ _ _ => ?_) | refine y_w (kk := fun _ _ => ?_) | refine y_s (kk := fun _ _ _ _ => ?_) | refine y_t (kk := ?_) | refine y_f (kk := ?_)))
    refine VW.Ord.nil ?_
    (repeat (first | with_reducible refine W.seq ?_ | with_reducible refine Ops.nil ?_ | with_reducible refine W.region ?_ | refine z_p (kk := ?_) | refine z_a (kk := ?_) | refine z_y (kk := ?_) | refine z_n (kk := ?_) | refine z_u (kk := ?_) | with_reducible refine W.skip ?_ | with_reducible refine W.endb ?_ | with_reducible refine W.block ?_ | refine W.exit rfl ?_ | refine z_l (kk := ?_) | refine z_f (kk := ?_) | refine z_M (kk := ?_) | refine z_m (kk := ?_) | refine z_e (kk := ?_) | refine z_E (kk := ?_) | refine z_d (kk := ?_) | refine z_I (kk := fun _ => ?_) | refine z_J (kk := fun _ => ?_) | refine z_K (kk := fun _ => ?_) | refine z_L (kk := fun _ => ?_) | refine z_T (kk := ?_) | refine z_F (kk := ?_) | refine z_k (kk := fun _ _ _ _ _ => ?_) | refine z_w (kk := fun _ _ => ?_) | refine z_s (kk := fun _ _ _ _ => ?_) | refine z_g (kk := ?_) | refine z_h (kk := ?_)))
    exact W.endl ⟨_, _, ⟨⟨i + 1, _, _, rfl, by omega, by omega, rfl, hO6⟩, by omega⟩, (by repeat (first | exact trivial | refine And.intro rfl ?_))⟩
  · have hfin : (l.take i).map (fun x : Nd => (x.1.take 61, x.2)) = treeM l := by
      unfold treeM
      by_cases h1 : i < l.length
      · rw [show i = 61 by omega]
      · rw [List.take_of_length_le (by omega), List.take_of_length_le (by omega)]
    rw [hfin] at hO
    by_cases h1 : i < l.length
    · have h2 : ¬ i ≤ 60 := by omega
      (repeat (first | with_reducible refine W.seq ?_ | with_reducible refine Ops.nil ?_ | with_reducible refine W.region ?_ | refine z_p (kk := ?_) | refine z_a (kk := ?_) | refine z_y (kk := ?_) | refine z_n (kk := ?_) | refine z_u (kk := ?_) | with_reducible refine W.skip ?_ | with_reducible refine W.endb ?_ | with_reducible refine W.block ?_ | refine W.exit rfl ?_ | refine z_l (kk := ?_) | refine z_f (kk := ?_) | refine z_M (kk := ?_) | refine z_m (kk := ?_) | refine z_e (kk := ?_) | refine z_E (kk := ?_) | refine z_d (kk := ?_) | refine z_I (kk := fun _ => ?_) | refine z_J (kk := fun _ => ?_) | refine z_K (kk := fun _ => ?_) | refine z_L (kk := fun _ => ?_) | refine z_T (kk := ?_) | refine z_F (kk := ?_) | refine z_k (kk := fun _ _ _ _ _ => ?_) | refine z_w (kk := fun _ _ => ?_) | refine z_s (kk := fun _ _ _ _ => ?_) | refine z_g (kk := ?_) | refine z_h (kk := ?_)))
      refine W.condF rfl (by first | rfl | assumption | (simp only [bnf] <;> omega) | (simp only [*, bnf]; done) | fail) ?_
      (repeat (first | with_reducible refine W.seq ?_ | with_reducible refine Ops.nil ?_ | with_reducible refine W.region ?_ | refine z_p (kk := ?_) | refine z_a (kk := ?_) | refine z_y (kk := ?_) | refine z_n (kk := ?_) | refine z_u (kk := ?_) | with_reducible refine W.skip ?_ | with_reducible refine W.endb ?_ | with_reducible refine W.block ?_ | refine W.exit rfl ?_ | refine z_l (kk := ?_) | refine z_f (kk := ?_) | refine z_M (kk := ?_) | refine z_m (kk := ?_) | refine z_e (kk := ?_) | refine z_E (kk := ?_) | refine z_d (kk := ?_) | refine z_I (kk := fun _ => ?_) | refine z_J (kk := fun _ => ?_) | refine z_K (kk := fun _ => ?_) | refine z_L (kk := fun _ => ?_) | refine z_T (kk := ?_) | refine z_F (kk := ?_) | refine z_k (kk := fun _ _ _ _ _ => ?_) | refine z_w (kk := fun _ _ => ?_) | refine z_s (kk := fun _ _ _ _ => ?_) | refine z_g (kk := ?_) | refine z_h (kk := ?_)))
      exact W.fret rfl ⟨hb3, hO.treeM⟩
    · (repeat (first | with_reducible refine W.seq ?_ | with_reducible refine Ops.nil ?_ | with_reducible refine W.region ?_ | refine z_p (kk := ?_) | refine z_a (kk := ?_) | refine z_y (kk := ?_) | refine z_n (kk := ?_) | refine z_u (kk := ?_) | with_reducible refine W.skip ?_ | with_reducible refine W.endb ?_ | with_reducible refine W.block ?_ | refine W.exit rfl ?_ | refine z_l (kk := ?_) | refine z_f (kk := ?_) | refine z_M (kk := ?_) | refine z_m (kk := ?_) | refine z_e (kk := ?_) | refine z_E (kk := ?_) | refine z_d (kk := ?_) | refine z_I (kk := fun _ => ?_) | refine z_J (kk := fun _ => ?_) | refine z_K (kk := fun _ => ?_) | refine z_L (kk := fun _ => ?_) | refine z_T (kk := ?_) | refine z_F (kk := ?_) | refine z_k (kk := fun _ _ _ _ _ => ?_) | refine z_w (kk := fun _ _ => ?_) | refine z_s (kk := fun _ _ _ _ => ?_) | refine z_g (kk := ?_) | refine z_h (kk := ?_)))
      refine W.condF rfl (by first | rfl | assumption | (simp only [bnf] <;> omega) | (simp only [*, bnf]; done) | fail) ?_
      (repeat (first | with_reducible refine W.seq ?_ | with_reducible refine Ops.nil ?_ | with_reducible refine W.region ?_ | refine z_p (kk := ?_) | refine z_a (kk := ?_) | refine z_y (kk := ?_) | refine z_n (kk := ?_) | refine z_u (kk := ?_) | with_reducible refine W.skip ?_ | with_reducible refine W.endb ?_ | with_reducible refine W.block ?_ | refine W.exit rfl ?_ | refine z_l (kk := ?_) | refine z_f (kk := ?_) | refine z_M (kk := ?_) | refine z_m (kk := ?_) | refine z_e (kk := ?_) | refine z_E (kk := ?_) | refine z_d (kk := ?_) | refine z_I (kk := fun _ => ?_) | refine z_J (kk := fun _ => ?_) | refine z_K (kk := fun _ => ?_) | refine z_L (kk := fun _ => ?_) | refine z_T (kk := ?_) | refine z_F (kk := ?_) | refine z_k (kk := fun _ _ _ _ _ => ?_) | refine z_w (kk := fun _ _ => ?_) | refine z_s (kk := fun _ _ _ _ => ?_) | refine z_g (kk := ?_) | refine z_h (kk := ?_)))
      exact W.fret rfl ⟨hb3, hO.treeM⟩
theorem Arg.below {w w' : World} {v : Value} {xs : List Int} (h : Arg w v xs) (k : Below w.heap.size w w') : Arg w' v xs := ⟨Sl.below h.1 k, h.2⟩
theorem treeM_kid (l : List Nd) (i : Nat) : (kid (treeM l) i).length ≤ 61 := by
  unfold kid treeM
  rw [List.getD_eq_getElem?_getD, List.getElem?_map]
  cases hx : (l.take 61)[((i : Nat) : Int).toNat]? with
  | none => simp
  | some x => simp; omega
end Go.Proofs.Ytdiljpnfochndaa
/- x == nil for slices; an empty literal; a field of an element written in a drawn region. -/
namespace Go.Proofs.Ytdiljpnfochndaa.VW
open Go Go.RowKit
section
variable {P : Program} [hT : Tab P] {n : Nat} {ds : List Deferred} {Φ : Post} {k : List It} {ρ : E} {w : World} {all : Array Oper} {l : List Oper} {md : Option (List Oper)} {s : Nat} {F : World → Prop} {π : List (Nat × Nat)} {L : List Bool}
theorem EV.nilE {o : Oper} {t t' e m c : Nat} {x y : Operand} {A : Option Addr} (ho : o.op = .binOp .eql t x y t') (ht : tyD P t = some (.slice e)) (hx : ev ρ x = some (.slice A m c)) (hy : ev ρ y = some (.slice none 0 0)) : EV P n ρ w o (.bool A.isNone) := by
  intro a hr
  have hu := td_slice (tyD_ok ht)
  simp only [execOp, ho, hr.ev hx, hr.ev hy]
  have : (Op.equal t (.slice A m c) (.slice none 0 0)).run P w = .ok A.isNone w := by
    unfold Op.equal
    rw [show Op.maxDepth = 9999 + 1 from rfl]
    unfold Op.equalIn
    cases A <;> simp [run_und hu]
  simp [eqGuard, binOp, this]
/-- An empty literal. -/
theorem Ops.bs0 {o : Oper} {d t e sz : Nat} (ho : o.op = .buildSlice t 0 #[]) (hd : o.dst = some d) (hg : o.guard = none) (ht : tyD P t = some (.slice e)) (hs : tyS P e = some sz)
    (hk : ∀ w' r, Mk w w' r (.cells #[] e) → Ops none P n ds all k Φ l ((d, .slice (some ⟨r, 0, none⟩) 0 0) :: ρ) w') : Ops none P n ds all k Φ (o :: l) ρ w := by
  refine Ops.val hd hg (fun a hr => ?_) (hk _ _ (mk_alloc w _))
  have h0 : (Array.range 0 : Array Nat) = #[] := rfl
  simp [execOp, ho, Instr.buildSlice, run_und (td_slice (tyD_ok ht)), run_sizeOf hs, Instr.fill, newRow, newObj, Sem.run, h0]
theorem own_zero {w w' : World} {r e sz : Nat} (h : Mk w w' r (.cells #[] e)) : w'.ownsRow 0 e sz (.slice (some ⟨r, 0, none⟩) 0 0) 0 [] :=
  ⟨by simp, .inr ⟨r, 0, #[], rfl, Nat.zero_le _, h.at_, Nat.le_refl _, by simp [maxLen], by simp, by simp⟩⟩
/-- A struct of two fields of which the second one alone is given. -/
theorem EV.bldS {o : Oper} {t : Nat} {y : Operand} {v z0 z1 : Value} (ho : o.op = .build t #[(1, y)])
    (ht : tyD P t = some (.struct [(0, 1), (1, 1)])) (hz : tyZ P t = some (.agg #[z0, z1])) (hy : ev ρ y = some v) (h2 : v.oneCell' = true) : EV P n ρ w o (.agg #[z0, v]) := by
  intro a hr
  obtain ⟨gs, hu, hm⟩ := td_struct (tyD_ok ht)
  have hsz : ∃ f g, gs = #[f, g] ∧ f.offset = 0 ∧ g.offset = 1 ∧ ((P.info? f.type).map (·.size)).getD 0 = 1 ∧ ((P.info? g.type).map (·.size)).getD 0 = 1 := by
    obtain ⟨L⟩ := gs
    rcases L with _ | ⟨f, _ | ⟨g, _ | ⟨h, r⟩⟩⟩
    · simp at hm
    · simp at hm
    · simp at hm; exact ⟨f, g, rfl, hm.1.1, hm.2.1, hm.1.2, hm.2.2⟩
    · simp at hm
  obtain ⟨f, g, rfl, hf0, hg1, hfs, hgs⟩ := hsz
  have q1 : ∃ i, P.info? f.type = some i ∧ i.size = 1 := by
    cases hi : P.info? f.type with
    | none => rw [hi] at hfs; simp at hfs
    | some i => rw [hi] at hfs; exact ⟨i, rfl, by simpa using hfs⟩
  have q2 : ∃ i, P.info? g.type = some i ∧ i.size = 1 := by
    cases hi : P.info? g.type with
    | none => rw [hi] at hgs; simp at hgs
    | some i => rw [hi] at hgs; exact ⟨i, rfl, by simpa using hgs⟩
  obtain ⟨i1, e1, s1⟩ := q1
  obtain ⟨i2, e2, s2⟩ := q2
  have hcv : v.cells = #[v] := by cases v <;> simp_all [Value.oneCell', Value.cells]
  have hcz : (Value.agg #[z0, z1]).cells = #[z0, z1] := rfl
  simp only [execOp, ho]
  simp [Instr.build, hr.ev hy, run_zeroV hz, run_und hu, sizeOf, typeInfo, e1, e2, s1, s2, hf0, hg1, Instr.fill, hcv, hcz]
/-- A field of an element of a slice of the call's own, written at the end of a drawn region. -/
theorem Ord.wrF {i1 i2 i3 d1 d2 t s' t' f e sz off szf m : Nat} {o1 o2 o3 : Oper} {x y z : Operand} {v u : Value} {i : Int} {cs : List Value}
    (e1 : all[i1]? = some o1) (h1 : o1.op = .indexAddr t x y) (hd1 : o1.dst = some d1) (hg1 : gdB all ρ o1.guard = some true) (e2 : all[i2]? = some o2) (h2 : o2.op = .fieldAddr s' (.tmp d1) f) (hd2 : o2.dst = some d2) (hg2 : ∀ p, gdB all ((d1, .pointer p) :: ρ) o2.guard = some true)
    (e3 : all[i3]? = some o3) (h3 : o3.op = .store t' (.tmp d2) z) (hd3 : o3.dst = none) (hg3 : o3.guard = none)
    (ht : tyD P t = some (.slice e)) (hs : tyS P e = some sz) (hf : fieldOff P s' f = some (off, szf + 1)) (hlt : Nat.blt off sz = true) (hs' : tyS P t' = some 1) (hx : ev ρ x = some v) (hy : ev ρ y = some (.int .i64 i)) (hz : ∀ p q, ev ((d2, q) :: (d1, p) :: ρ) z = some u) (hu1 : u.oneCell' = true)
    (hown : w.ownsRow 0 e sz v m cs) (h0 : 0 ≤ i) (hi : i < m) (hΦ : ∀ c ρ w, ¬ Φ (.panic c) ρ w)
    (hk : ∀ w' p q, w'.ownsRow 0 e sz v m (cs.set (i.toNat * sz + off) u) → Kp (fun b => v.ownBlock = some b) w w' → w'.heap.size = w.heap.size → VW.Ord P n ds all k Φ 9999 (fun _ => True) π (((L.set i1 true).set i2 true).set i3 true) ((d2, q) :: (d1, p) :: ρ) w') : VW.Ord P n ds all k Φ 9999 (fun _ => True) ((i1, 1) :: (i2, 1) :: (i3, 0) :: π) L ρ w := by
  have hlt' : off < sz := by simpa using hlt
  obtain ⟨g, cap, cur, rfl, hb, hcs⟩ := own_blk hown (by omega)
  refine VW.Ord.pure e1 hd1 hg1 rfl hΦ (fun w => EV.idx h1 ht hs hx hy h0 hi) (VW.Ord.pure e2 hd2 (hg2 _) rfl hΦ (fun w => EV.fld h2 hf (ev_top _ _ _)) (VW.Ord.effT e3 ?_))
  rw [add_lit, add_lit, Nat.zero_add]
  have hbd := mul_lt (i := i.toNat) (m := m) (sz := sz) (off := off) (by omega) hlt'
  refine Ops.st h3 hd3 hg3 hs' (ev_top _ _ _) (hz _ _) hu1 hb (by omega) (fun w' hu => Ops.nil (W.endl (hk w' _ _ (own_set hown hb hu) ?_ hu.size)))
  exact hu.kp.mono (fun i _ e => by simp [Value.ownBlock, e])
end
end Go.Proofs.Ytdiljpnfochndaa.VW
namespace Go.Proofs.Ytdiljpnfochndaa
open Go Go.RowKit Go.Proofs.Ytdiljpnfochndaa.VW
open Go.Proofs.Ytdiljpnfochndaa.HP (Nd kid wor leafB)
attribute [local irreducible] W Ops OrdA VW.Ord OrdX
theorem flat_set : ∀ (cs : List Value) (xs : List Nd) (p : Nat) (v : Value) (ks : List Int), cs.length = xs.length → p < xs.length → (flat cs xs).set (p * 2) v = flat (cs.set p v) (xs.set p (ks, (xs.getD p ([], 0)).2))
  | [], [], _, _, _, _, h => by simp at h
  | a :: cs, y :: xs, 0, v, ks, _, _ => by simp [flat]
  | a :: cs, y :: xs, p + 1, v, ks, h, hp => by
    have := flat_set cs xs p v ks (by simpa using h) (by simpa using hp)
    rw [show (p + 1) * 2 = p * 2 + 1 + 1 by omega]
    simp only [flat, List.set_cons_succ, List.getD_cons_succ, this]
  | [], _ :: _, _, _, _, h, _ => by simp at h
  | _ :: _, [], _, _, _, h, _ => by simp at h
theorem ndD_set_eq {tr : List Nd} {p : Nat} {x : Nd} (h : p < tr.length) : (tr.set p x).getD p ([], 0) = x := by simp [List.getD_eq_getElem?_getD, h]
theorem ndD_set_ne {tr : List Nd} {p j : Nat} {x : Nd} (h : p ≠ j) : (tr.set p x).getD j ([], 0) = tr.getD j ([], 0) := by simp [List.getD_eq_getElem?_getD, h]
/-- A tree of the call's own, whose lists of children are its own too, each in its own block; all of them from block B on. -/
structure TQ (B : Nat) (w : World) (ov : Value) (tr : List Nd) (cvs : List Value) : Prop where
  ge : ∀ k, ov.ownBlock = some k → B ≤ k
  len : cvs.length = tr.length
  row : w.ownsRow 0 47 2 ov tr.length (flat cvs tr)
  own : ∀ j, j < tr.length → w.ownsRow 0 3 1 (cvs.getD j undef) (tr.getD j ([], 0)).1.length ((tr.getD j ([], 0)).1.map (Value.int .i64))
  sep : ∀ j, j < tr.length → ∀ k, (cvs.getD j undef).ownBlock = some k → B ≤ k ∧ ov.ownBlock ≠ some k
  two : ∀ j j', j < tr.length → j' < tr.length → j ≠ j' → ∀ k, (cvs.getD j undef).ownBlock = some k → (cvs.getD j' undef).ownBlock ≠ some k
/-- The blocks of such a tree. -/
def outB (ov : Value) (cvs : List Value) (k : Nat) : Prop := ov.ownBlock = some k ∨ ∃ j, j < cvs.length ∧ (cvs.getD j undef).ownBlock = some k
theorem TQ.nil (B : Nat) (w : World) : TQ B w (.slice none 0 0) [] [] :=
  ⟨fun k hk => by simp [Value.ownBlock] at hk, rfl, World.ownsRow_nil w 0 47 2, fun j hj => by simp at hj, fun j hj => by simp at hj, fun j j' hj => by simp at hj⟩
theorem TQ.kp {B : Nat} {w w' : World} {ov : Value} {tr : List Nd} {cvs : List Value} {S : Nat → Prop} (h : TQ B w ov tr cvs) (k : Kp S w w') (hs : ∀ i, outB ov cvs i → ¬ S i) : TQ B w' ov tr cvs :=
  ⟨h.ge, h.len, own_kp h.row k (fun i hi => hs i (.inl hi)), fun j hj => own_kp (h.own j hj) k (fun i hi => hs i (.inr ⟨j, by rw [h.len]; exact hj, hi⟩)), h.sep, h.two⟩
theorem TQ.lt {B : Nat} {w : World} {ov : Value} {tr : List Nd} {cvs : List Value} (h : TQ B w ov tr cvs) {k : Nat} (hk : outB ov cvs k) : B ≤ k ∧ k < w.heap.size := by
  rcases hk with e | ⟨j, hj, e⟩
  · exact ⟨h.ge k e, (h.row.lt k e).2⟩
  · rw [h.len] at hj
    exact ⟨(h.sep j hj k e).1, ((h.own j hj).lt k e).2⟩
theorem TQ.below {B : Nat} {w w' : World} {ov : Value} {tr : List Nd} {cvs : List Value} (h : TQ B w ov tr cvs) (k : Below w.heap.size w w') : TQ B w' ov tr cvs :=
  h.kp (Kp.of_below (S := fun _ => False) k) (fun _ _ e => e)
theorem TQ.treeM {B : Nat} {w : World} {ov : Value} {tr : List Nd} {cvs : List Value} (h : TQ B w ov tr cvs) : TreeM w ov tr := by
  by_cases hp : 0 < tr.length
  · obtain ⟨g, cap, rfl, hc⟩ := own_at h.row hp
    refine ⟨some ⟨g, 0, none⟩, cap, cvs, rfl, fun _ => ⟨_, rfl, fun j hj => ?_⟩, fun j hj => own_sl (h.own j hj)⟩
    have hf := flat_at cvs tr j h.len hj
    rw [add_lit, add_lit, Nat.zero_add]
    exact ⟨by rw [hc _ (by omega), hf.1], by rw [hc _ (by omega), hf.2]⟩
  · have h0 : tr = [] := List.eq_nil_of_length_eq_zero (by omega)
    subst h0
    rcases h.row.2 with ⟨h1, _⟩ | ⟨g, cap, cur, h1, _⟩
    · exact ⟨none, 0, cvs, h1, fun h => by simp at h, fun j hj => by simp at hj⟩
    · exact ⟨_, cap, cvs, h1, fun h => by simp at h, fun j hj => by simp at hj⟩
/-- The cell of the children of an element. -/
theorem TQ.cell {B : Nat} {w : World} {ov : Value} {tr : List Nd} {cvs : List Value} (h : TQ B w ov tr cvs) {p : Nat} (hp : p < tr.length) : ∃ g cap, ov = .slice (some ⟨g, 0, none⟩) tr.length cap ∧ w.cell? ⟨g, p * 2, none⟩ = some (cvs.getD p undef) := by
  obtain ⟨g, cap, e, hc⟩ := own_at h.row (by omega)
  have hf := flat_at cvs tr p h.len hp
  exact ⟨g, cap, e, by rw [hc _ (by omega), hf.1]⟩
/-- A node without children more. -/
theorem TQ.push {B : Nat} {w w' : World} {ov ov' : Value} {tr : List Nd} {cvs : List Value} {x : Int} (h : TQ B w ov tr cvs) (hB : B ≤ w.heap.size)
    (hrow : w'.ownsRow 0 47 2 ov' (tr.length + 1) (flat cvs tr ++ [.slice none 0 0, .int .i64 x])) (k : Kp (fun i => ov.ownBlock = some i) w w') (hn : ∀ i, ov'.ownBlock = some i → ov.ownBlock = some i ∨ w.heap.size ≤ i) : TQ B w' ov' (tr ++ [([], x)]) (cvs ++ [.slice none 0 0]) := by
  have hl := h.len
  have hb : ∀ i, ov'.ownBlock = some i → B ≤ i := fun i hi => by
    rcases hn i hi with e | e
    · exact h.ge i e
    · omega
  refine ⟨hb, by simp [hl], ?_, fun j hj => ?_, fun j hj i hi => ?_, fun j j' hj hj' hne i hi => ?_⟩
  · rw [flat_snoc _ _ _ _ hl, List.length_append, List.length_singleton]
    exact hrow
  · rw [List.length_append, List.length_singleton] at hj
    by_cases e : j = tr.length
    · subst e
      rw [app_last hl.symm, app_last rfl]
      exact own_nil _ _ _
    · rw [app_getD (by omega), app_getD (by omega)]
      exact own_kp (h.own j (by omega)) k (fun i hi e2 => (h.sep j (by omega) i hi).2 e2)
  · rw [List.length_append, List.length_singleton] at hj
    by_cases e : j = tr.length
    · subst e
      rw [app_last hl.symm] at hi
      simp [Value.ownBlock] at hi
    · rw [app_getD (by omega)] at hi
      refine ⟨(h.sep j (by omega) i hi).1, fun e2 => ?_⟩
      rcases hn i e2 with e3 | e3
      · exact (h.sep j (by omega) i hi).2 e3
      · have := ((h.own j (by omega)).lt i hi).2; omega
  · rw [List.length_append, List.length_singleton] at hj hj'
    by_cases e : j = tr.length
    · subst e
      rw [app_last hl.symm] at hi
      simp [Value.ownBlock] at hi
    · by_cases e' : j' = tr.length
      · subst e'
        rw [app_last hl.symm]
        simp [Value.ownBlock]
      · rw [app_getD (by omega)] at hi
        rw [app_getD (by omega)]
        exact h.two j j' (by omega) (by omega) hne i hi
/-- A child more. -/
theorem TQ.grow {B : Nat} {w w1 w' : World} {ov lv' : Value} {tr : List Nd} {cvs : List Value} {p : Nat} {x : Int} (h : TQ B w ov tr cvs) (hB : B ≤ w.heap.size) (hp : p < tr.length)
    (ho : w1.ownsRow 0 3 1 lv' ((kid tr p).length + 1) ((kid tr p).map (Value.int .i64) ++ [.int .i64 x])) (k : Kp (fun i => (cvs.getD p undef).ownBlock = some i) w w1)
    (hn : ∀ i, lv'.ownBlock = some i → (cvs.getD p undef).ownBlock = some i ∨ w.heap.size ≤ i) (ho' : w'.ownsRow 0 47 2 ov tr.length ((flat cvs tr).set (p * 2) lv')) (k' : Kp (fun i => ov.ownBlock = some i) w1 w') : TQ B w' ov (tr.set p (kid tr p ++ [x], wor tr p)) (cvs.set p lv') := by
  have hl := h.len
  have hsep : ∀ i, lv'.ownBlock = some i → B ≤ i ∧ ov.ownBlock ≠ some i := fun i hi => by
    rcases hn i hi with e | e
    · exact h.sep p hp i e
    · exact ⟨by omega, fun e2 => by have := (h.row.lt i e2).2; omega⟩
  have hkid : (tr.getD p ([], 0)).1 = kid tr p := by simp [Go.Proofs.Ytdiljpnfochndaa.HP.kid]
  refine ⟨h.ge, by simp [hl], ?_, fun j hj => ?_, fun j hj i hi => ?_, fun j j' hj hj' hne i hi => ?_⟩
  · rw [flat_set _ _ _ _ (kid tr p ++ [x]) hl hp] at ho'
    rw [List.length_set]
    simpa [Go.Proofs.Ytdiljpnfochndaa.HP.wor] using ho'
  · rw [List.length_set] at hj
    by_cases e : p = j
    · subst e
      rw [lgetD_set_eq (by omega), ndD_set_eq hp]
      have := own_kp ho k' (fun i hi e => (hsep i hi).2 e)
      simpa using this
    · rw [lgetD_set_ne e, ndD_set_ne e]
      exact own_kp (own_kp (h.own j hj) k (fun i hi e2 => h.two p j hp hj e i e2 hi)) k' (fun i hi e2 => (h.sep j hj i hi).2 e2)
  · rw [List.length_set] at hj
    by_cases e : p = j
    · subst e
      rw [lgetD_set_eq (by omega)] at hi
      exact hsep i hi
    · rw [lgetD_set_ne e] at hi
      exact h.sep j hj i hi
  · rw [List.length_set] at hj hj'
    by_cases e : p = j
    · subst e
      rw [lgetD_set_eq (by omega)] at hi
      rw [lgetD_set_ne hne]
      rcases hn i hi with e2 | e2
      · exact h.two p j' hp hj' hne i e2
      · intro e3; have := ((h.own j' hj').lt i e3).2; omega
    · rw [lgetD_set_ne e] at hi
      by_cases e' : p = j'
      · subst e'
        rw [lgetD_set_eq (by omega)]
        intro e3
        rcases hn i e3 with e4 | e4
        · exact h.two j p hj hp hne i hi e4
        · have := ((h.own j hj).lt i hi).2; omega
      · rw [lgetD_set_ne e']
        exact h.two j j' hj hj' hne i hi
theorem outB_push {ov ov' : Value} {cvs : List Value} {w : World} (hn : ∀ i, ov'.ownBlock = some i → ov.ownBlock = some i ∨ w.heap.size ≤ i) : ∀ k, outB ov' (cvs ++ [.slice none 0 0]) k → outB ov cvs k ∨ w.heap.size ≤ k := fun k hk => by
  rcases hk with e | ⟨j, hj, e⟩
  · rcases hn k e with h | h
    · exact .inl (.inl h)
    · exact .inr h
  · rw [List.length_append, List.length_singleton] at hj
    by_cases e2 : j = cvs.length
    · subst e2
      rw [app_last rfl] at e
      simp [Value.ownBlock] at e
    · rw [app_getD (by omega)] at e
      exact .inl (.inr ⟨j, by omega, e⟩)
theorem outB_set {ov lv' : Value} {cvs : List Value} {w : World} {p : Nat} (hp : p < cvs.length) (hn : ∀ i, lv'.ownBlock = some i → (cvs.getD p undef).ownBlock = some i ∨ w.heap.size ≤ i) : ∀ k, outB ov (cvs.set p lv') k → outB ov cvs k ∨ w.heap.size ≤ k := fun k hk => by
  rcases hk with e | ⟨j, hj, e⟩
  · exact .inl (.inl e)
  · rw [List.length_set] at hj
    by_cases e2 : p = j
    · subst e2
      rw [lgetD_set_eq hj] at e
      rcases hn k e with h | h
      · exact .inl (.inr ⟨p, hj, h⟩)
      · exact .inr h
    · rw [lgetD_set_ne e2] at e
      exact .inl (.inr ⟨j, hj, e⟩)
end Go.Proofs.Ytdiljpnfochndaa
/- The tree whose children stand in another order. -/
namespace Go.Proofs.Ytdiljpnfochndaa.HP
theorem sortK_pw {K : Int → Int} {x : List Int} (h : SortK K x 0 x.length) : x.Pairwise fun a b => K a < K b := by
  rw [List.pairwise_iff_getElem]
  intro i j hi hj hij
  have := h i j (Nat.zero_le _) hij hj
  simpa [List.getD_eq_getElem?_getD, hi, hj] using this
theorem pw_uniq {K : Int → Int} {x y : List Int} (hp : x.Perm y) (hx : x.Pairwise fun a b => K a < K b) (hy : y.Pairwise fun a b => K a < K b) : x = y :=
  List.Perm.eq_of_pairwise (fun a b _ _ h1 h2 => absurd h1 (Int.lt_asymm h2)) hx hy hp
/-- The children one after the other, each at the place that it takes. -/
def kT (T : Int → Nat → List Nd) (at_ : Nat) (cs : List Int) : List Int × List Nd :=
  cs.foldl (fun a c => (a.1 ++ [((at_ + 1 + a.2.length : Nat) : Int)], a.2 ++ T c (at_ + 1 + a.2.length))) ([], [])
def subT (S : Int → List Int) (l : List Nd) : Nat → Int → Nat → List Nd
  | 0, _, _ => []
  | f + 1, i, at_ => ((kT (subT S l f) at_ (S i)).1, wor l i) :: (kT (subT S l f) at_ (S i)).2
def subO (S : Int → List Int) : Nat → Int → List Int
  | 0, _ => []
  | f + 1, i => i :: (S i).flatMap (subO S f)
theorem rev_ind {P : List Int → Prop} (h0 : P []) (h1 : ∀ cs c, P cs → P (cs ++ [c])) (cs : List Int) : P cs := by
  have : ∀ r : List Int, P r.reverse := fun r => by
    induction r with
    | nil => exact h0
    | cons a r ih => rw [List.reverse_cons]; exact h1 _ _ ih
  have h := this cs.reverse
  rwa [List.reverse_reverse] at h
theorem kT_snoc (T : Int → Nat → List Nd) (at_ : Nat) (cs : List Int) (c : Int) : kT T at_ (cs ++ [c]) = ((kT T at_ cs).1 ++ [((at_ + 1 + (kT T at_ cs).2.length : Nat) : Int)], (kT T at_ cs).2 ++ T c (at_ + 1 + (kT T at_ cs).2.length)) := by
  simp [kT, List.foldl_append]
theorem kT_nil (T : Int → Nat → List Nd) (at_ : Nat) : kT T at_ [] = ([], []) := rfl
theorem kT_len1 (T : Int → Nat → List Nd) (at_ : Nat) (cs : List Int) : (kT T at_ cs).1.length = cs.length := by
  refine rev_ind (P := fun cs => (kT T at_ cs).1.length = cs.length) rfl (fun cs c ih => ?_) cs
  rw [kT_snoc]; simp [ih]
theorem subT_len (S : Int → List Int) (l : List Nd) : ∀ (f : Nat) (i : Int) (at_ : Nat), (subT S l f i at_).length = (subO S f i).length
  | 0, _, _ => rfl
  | f + 1, i, at_ => by
    simp only [subT, subO, List.length_cons]
    have : ∀ cs : List Int, (kT (subT S l f) at_ cs).2.length = (cs.flatMap (subO S f)).length := fun cs => by
      refine rev_ind (P := fun cs => (kT (subT S l f) at_ cs).2.length = (cs.flatMap (subO S f)).length) rfl (fun cs c ih => ?_) cs
      rw [kT_snoc, List.flatMap_append, List.length_append, List.length_append, ih, subT_len S l f]
      simp
    rw [this]
theorem kT_len2 (S : Int → List Int) (l : List Nd) (f at_ : Nat) (cs : List Int) : (kT (subT S l f) at_ cs).2.length = (cs.flatMap (subO S f)).length := by
  refine rev_ind (P := fun cs => (kT (subT S l f) at_ cs).2.length = (cs.flatMap (subO S f)).length) rfl (fun cs c ih => ?_) cs
  rw [kT_snoc, List.flatMap_append, List.length_append, List.length_append, ih, subT_len]
  simp
/-- The children in another order. -/
def Ord' (S : Int → List Int) (l : List Nd) : Prop := ∀ i : Nat, i < l.length → (S i).Perm (kid l i)
theorem Ord'.mem {S : Int → List Int} {l : List Nd} (h : Ord' S l) {i : Nat} (hi : i < l.length) {c : Int} : c ∈ S i ↔ c ∈ kid l i := (h i hi).mem_iff
theorem subO_mem {S : Int → List Int} {l : List Nd} {dep : List Int} (hS : Ord' S l) (hT : TF l dep) : ∀ (f : Nat) (i : Nat), i < l.length → ∀ x ∈ subO S f i, (i : Int) ≤ x ∧ x < l.length ∧ ∃ k, Anc l k i x
  | 0, i, hi, x, hx => by simp [subO] at hx
  | f + 1, i, hi, x, hx => by
    simp only [subO, List.mem_cons, List.mem_flatMap] at hx
    rcases hx with rfl | ⟨c, hc, hx⟩
    · exact ⟨Int.le_refl _, by omega, 0, rfl⟩
    · rw [hS.mem hi] at hc
      obtain ⟨h1, h2⟩ := mem_kid hT hi hc
      obtain ⟨m, rfl⟩ := Int.eq_ofNat_of_zero_le (show 0 ≤ c by omega)
      obtain ⟨g1, g2, k, g3⟩ := subO_mem hS hT f m (by omega) x hx
      exact ⟨by omega, g2, k + 1, m, hc, g3⟩
theorem kid_nodup {l : List Nd} {dep : List Int} (hT : TF l dep) {i : Nat} (hi : i < l.length) : (kid l i).Nodup := by
  rw [List.nodup_iff_pairwise_ne, List.pairwise_iff_getElem]
  intro a b ha hb hab e
  have := (hT.inj i a i b hi ha hi hb (by simp [k_, List.getD_eq_getElem?_getD, ha, hb, e])).2
  omega
theorem subO_nodup {S : Int → List Int} {l : List Nd} {dep : List Int} (hS : Ord' S l) (hT : TF l dep) : ∀ (f : Nat) (i : Nat), i < l.length → (subO S f i).Nodup
  | 0, i, hi => by simp [subO]
  | f + 1, i, hi => by
    have hnd : (S i).Nodup := (hS i hi).nodup_iff.2 (kid_nodup hT hi)
    simp only [subO, List.nodup_cons, List.mem_flatMap, not_exists, not_and]
    refine ⟨fun c hc hx => ?_, ?_⟩
    · rw [hS.mem hi] at hc
      obtain ⟨h1, h2⟩ := mem_kid hT hi hc
      obtain ⟨m, rfl⟩ := Int.eq_ofNat_of_zero_le (show 0 ≤ c by omega)
      have := (subO_mem hS hT f m (by omega) _ hx).1
      omega
    · rw [List.nodup_iff_pairwise_ne, List.pairwise_flatMap]
      refine ⟨fun c hc => ?_, ?_⟩
      · rw [hS.mem hi] at hc
        obtain ⟨h1, h2⟩ := mem_kid hT hi hc
        obtain ⟨m, rfl⟩ := Int.eq_ofNat_of_zero_le (show 0 ≤ c by omega)
        exact subO_nodup hS hT f m (by omega)
      · refine hnd.imp_of_mem fun {c d} hc hd hne x hx y hy e => ?_
        subst e
        rw [hS.mem hi] at hc hd
        obtain ⟨h1, h2⟩ := mem_kid hT hi hc
        obtain ⟨h3, h4⟩ := mem_kid hT hi hd
        obtain ⟨b, hb, eb⟩ := kid_at hc
        obtain ⟨t, ht, et⟩ := kid_at hd
        obtain ⟨m, rfl⟩ := Int.eq_ofNat_of_zero_le (show 0 ≤ c by omega)
        obtain ⟨q, rfl⟩ := Int.eq_ofNat_of_zero_le (show 0 ≤ d by omega)
        obtain ⟨_, _, k, g1⟩ := subO_mem hS hT f m (by omega) _ hx
        obtain ⟨_, _, k', g2⟩ := subO_mem hS hT f q (by omega) _ hy
        rw [← eb] at g1
        rw [← et] at g2
        have := anc_disj hT hi hb ht g1 g2
        subst this
        exact hne (eb.symm.trans et)
theorem subO_len {S : Int → List Int} {l : List Nd} {dep : List Int} (hS : Ord' S l) (hT : TF l dep) (f : Nat) (i : Nat) (hi : i < l.length) : (subO S f i).length ≤ l.length :=
  nodup_len _ _ (subO_nodup hS hT f i hi) fun x hx => by have := subO_mem hS hT f i hi x hx; omega
end Go.Proofs.Ytdiljpnfochndaa.HP
/- The order of the children: by value, then by place. -/
namespace Go.Proofs.Ytdiljpnfochndaa.HP
/-- 1 for who takes the smallest, -1 for who takes the greatest. -/
def sg (dep : List Int) (i : Int) : Int := if evB dep i then -1 else 1
theorem sg_cases (dep : List Int) (i : Int) : sg dep i = 1 ∨ sg dep i = -1 := by unfold sg; split <;> simp
def KK (l : List Nd) (dep vs : List Int) (i x : Int) : Int := sg dep i * rd vs x * 64 + ((kid l i).idxOf x : Nat)
def SS (l : List Nd) (dep vs : List Int) (i : Int) : List Int := (kid l i).mergeSort fun x y => decide (KK l dep vs i x ≤ KK l dep vs i y)
theorem idx_kid {l : List Nd} {dep : List Int} (hT : TF l dep) {i p : Nat} (hi : i < l.length) (hp : p < (kid l i).length) : (kid l i).idxOf ((kid l i).getD p 0) = p := by
  have := (kid_nodup hT hi).idxOf_getElem p hp
  simpa [List.getD_eq_getElem?_getD, hp] using this
theorem KK_kid {l : List Nd} {dep : List Int} (hT : TF l dep) (vs : List Int) {i p : Nat} (hi : i < l.length) (hp : p < (kid l i).length) : KK l dep vs i ((kid l i).getD p 0) = sg dep i * rd vs ((kid l i).getD p 0) * 64 + p := by
  unfold KK; rw [idx_kid hT hi hp]
theorem KK_lt {l : List Nd} {dep : List Int} (hT : TF l dep) (vs : List Int) {i p q : Nat} (hi : i < l.length) (hpq : p < q) (hq : q < (kid l i).length) :
    (sg dep i * (rd vs ((kid l i).getD q 0) - rd vs ((kid l i).getD p 0)) < 0 ↔ KK l dep vs i ((kid l i).getD q 0) < KK l dep vs i ((kid l i).getD p 0)) ∧ KK l dep vs i ((kid l i).getD p 0) ≠ KK l dep vs i ((kid l i).getD q 0) := by
  have hl := hT.klen i hi
  rw [KK_kid hT vs hi (show p < _ by omega), KK_kid hT vs hi hq]
  rcases sg_cases dep i with e | e <;> rw [e] <;> constructor <;> omega
theorem KK_inj {l : List Nd} {dep : List Int} (hT : TF l dep) (vs : List Int) {i : Nat} (hi : i < l.length) {x y : Int} (hx : x ∈ kid l i) (hy : y ∈ kid l i) (h : KK l dep vs i x = KK l dep vs i y) : x = y := by
  obtain ⟨p, hp, rfl⟩ := kid_at hx
  obtain ⟨q, hq, rfl⟩ := kid_at hy
  rcases Nat.lt_trichotomy p q with e | e | e
  · exact absurd h (KK_lt hT vs hi e hq).2
  · rw [e]
  · exact absurd h.symm (KK_lt hT vs hi e hp).2
theorem SS_perm (l : List Nd) (dep vs : List Int) (i : Int) : (SS l dep vs i).Perm (kid l i) := List.mergeSort_perm _ _
theorem SS_ord (l : List Nd) (dep vs : List Int) : Ord' (SS l dep vs) l := fun i _ => SS_perm l dep vs i
theorem SS_pw {l : List Nd} {dep : List Int} (hT : TF l dep) (vs : List Int) {i : Nat} (hi : i < l.length) : (SS l dep vs i).Pairwise fun a b => KK l dep vs i a < KK l dep vs i b := by
  have h1 := List.pairwise_mergeSort (le := fun x y => decide (KK l dep vs i x ≤ KK l dep vs i y)) (fun a b c h1 h2 => by simp only [decide_eq_true_eq] at h1 h2 ⊢; omega) (fun a b => by simp only [Bool.or_eq_true, decide_eq_true_eq]; omega) (kid l i)
  have h2 : (SS l dep vs i).Nodup := (SS_perm l dep vs i).nodup_iff.2 (kid_nodup hT hi)
  rw [List.nodup_iff_pairwise_ne] at h2
  refine (h1.and h2).imp_of_mem fun {a b} ha hb h => ?_
  have h3 : a ≠ b := h.2
  have h4 := h.1
  simp only [decide_eq_true_eq] at h4
  have h5 : KK l dep vs i a ≠ KK l dep vs i b := fun e => h3 (KK_inj hT vs hi ((SS_perm l dep vs i).mem_iff.1 ha) ((SS_perm l dep vs i).mem_iff.1 hb) e)
  omega
theorem SS_uniq {l : List Nd} {dep : List Int} (hT : TF l dep) (vs : List Int) {i : Nat} (hi : i < l.length) {os : List Int} (h1 : os.Perm (kid l i)) (h2 : os.Pairwise fun a b => KK l dep vs i a < KK l dep vs i b) : os = SS l dep vs i :=
  pw_uniq (h1.trans (SS_perm l dep vs i).symm) h2 (SS_pw hT vs hi)
theorem SS_len (l : List Nd) (dep vs : List Int) (i : Int) : (SS l dep vs i).length = (kid l i).length := (SS_perm l dep vs i).length_eq
theorem SS_mem {l : List Nd} {dep : List Int} (hT : TF l dep) (vs : List Int) {i : Nat} (hi : i < l.length) {j : Nat} (hj : j < (SS l dep vs i).length) : (i : Int) < (SS l dep vs i).getD j 0 ∧ (SS l dep vs i).getD j 0 < l.length := by
  have hm : (SS l dep vs i).getD j 0 ∈ kid l i := (SS_perm l dep vs i).mem_iff.1 (by rw [List.getD_eq_getElem?_getD, List.getElem?_eq_getElem hj]; exact List.getElem_mem hj)
  obtain ⟨h1, h2⟩ := mem_kid hT hi hm
  exact ⟨h1, h2⟩
theorem getD_mem {xs : List Int} {j : Nat} (h : j < xs.length) : xs.getD j 0 ∈ xs := by rw [List.getD_eq_getElem?_getD, List.getElem?_eq_getElem h]; exact List.getElem_mem h
theorem kid_few {l : List Nd} {dep : List Int} (hT : TF l dep) {i : Nat} (hi : i < l.length) : (kid l i).length < l.length := by
  have h := nodup_len l.length ((i : Int) :: kid l i) (List.nodup_cons.2 ⟨fun h => by have := (mem_kid hT hi h).1; omega, kid_nodup hT hi⟩) (fun x hx => by
    rcases List.mem_cons.1 hx with rfl | hx
    · omega
    · have := mem_kid hT hi hx; omega)
  rw [List.length_cons] at h
  omega
end Go.Proofs.Ytdiljpnfochndaa.HP
namespace Go.Proofs.Ytdiljpnfochndaa
open Go Go.RowKit Go.Proofs.Ytdiljpnfochndaa.VW
open Go.Proofs.Ytdiljpnfochndaa.HP (Nd kid wor leafB rd evB sg)
attribute [local irreducible] W Ops OrdA VW.Ord OrdX
theorem clone_c {w : World} {v : Value} {xs : List Int} (h : SlI w v xs) (hl : xs.length ≤ 1000) : Calls Try.prog 87 #[v] w (Ret fun r w' => OI 3 (Value.int .i64) w w' r xs) := by
  obtain ⟨A, c, rfl⟩ := Sl.sl h
  refine calls_W (vs := [_]) Try.func87 rfl (by kernel_rfl) rfl ?_
  (repeat (first | with_reducible refine W.seq ?_ | with_reducible refine Ops.nil ?_ | with_reducible refine W.region ?_ | refine z_p (kk := ?_) | refine z_a (kk := ?_) | refine z_y (kk := ?_) | refine z_n (kk := ?_) | refine z_u (kk := ?_) | with_reducible refine W.skip ?_ | with_reducible refine W.endb ?_ | with_reducible refine W.block ?_ | refine W.exit rfl ?_ | refine z_l (kk := ?_) | refine z_f (kk := ?_) | refine z_M (kk := ?_) | refine z_m (kk := ?_) | refine z_e (kk := ?_) | refine z_E (kk := ?_) | refine z_d (kk := ?_) | refine z_I (kk := fun _ => ?_) | refine z_J (kk := fun _ => ?_) | refine z_K (kk := fun _ => ?_) | refine z_L (kk := fun _ => ?_) | refine z_T (kk := ?_) | refine z_F (kk := ?_) | refine z_k (kk := fun _ _ _ _ _ => ?_) | refine z_w (kk := fun _ _ => ?_) | refine z_s (kk := fun _ _ _ _ => ?_) | refine z_D (kk := ?_) | refine z_g (kk := ?_) | refine z_h (kk := ?_)))
  refine Ops.evG rfl rfl rfl (EV.nilE rfl rfl rfl rfl) ?_
  (repeat (first | with_reducible refine W.seq ?_ | with_reducible refine Ops.nil ?_ | with_reducible refine W.region ?_ | refine z_p (kk := ?_) | refine z_a (kk := ?_) | refine z_y (kk := ?_) | refine z_n (kk := ?_) | refine z_u (kk := ?_) | with_reducible refine W.skip ?_ | with_reducible refine W.endb ?_ | with_reducible refine W.block ?_ | refine W.exit rfl ?_ | refine z_l (kk := ?_) | refine z_f (kk := ?_) | refine z_M (kk := ?_) | refine z_m (kk := ?_) | refine z_e (kk := ?_) | refine z_E (kk := ?_) | refine z_d (kk := ?_) | refine z_I (kk := fun _ => ?_) | refine z_J (kk := fun _ => ?_) | refine z_K (kk := fun _ => ?_) | refine z_L (kk := fun _ => ?_) | refine z_T (kk := ?_) | refine z_F (kk := ?_) | refine z_k (kk := fun _ _ _ _ _ => ?_) | refine z_w (kk := fun _ _ => ?_) | refine z_s (kk := fun _ _ _ _ => ?_) | refine z_D (kk := ?_) | refine z_g (kk := ?_) | refine z_h (kk := ?_)))
  cases A with
  | none =>
    have hx : xs = [] := by
      obtain ⟨_, A, c', e, hc⟩ := h
      by_cases hp : 0 < xs.length
      · obtain ⟨a, ea, _⟩ := hc hp
        simp only [Value.slice.injEq] at e
        rw [ea] at e
        simp at e
      · exact List.eq_nil_of_length_eq_zero (by omega)
    subst hx
    refine W.condT rfl (by first | rfl | assumption | (simp only [bnf] <;> omega) | (simp only [*, bnf]; done) | fail) ?_
    (repeat (first | with_reducible refine W.seq ?_ | with_reducible refine Ops.nil ?_ | with_reducible refine W.region ?_ | refine z_p (kk := ?_) | refine z_a (kk := ?_) | refine z_y (kk := ?_) | refine z_n (kk := ?_) | refine z_u (kk := ?_) | with_reducible refine W.skip ?_ | with_reducible refine W.endb ?_ | with_reducible refine W.block ?_ | refine W.exit rfl ?_ | refine z_l (kk := ?_) | refine z_f (kk := ?_) | refine z_M (kk := ?_) | refine z_m (kk := ?_) | refine z_e (kk := ?_) | refine z_E (kk := ?_) | refine z_d (kk := ?_) | refine z_I (kk := fun _ => ?_) | refine z_J (kk := fun _ => ?_) | refine z_K (kk := fun _ => ?_) | refine z_L (kk := fun _ => ?_) | refine z_T (kk := ?_) | refine z_F (kk := ?_) | refine z_k (kk := fun _ _ _ _ _ => ?_) | refine z_w (kk := fun _ _ => ?_) | refine z_s (kk := fun _ _ _ _ => ?_) | refine z_D (kk := ?_) | refine z_g (kk := ?_) | refine z_h (kk := ?_)))
    exact W.fret rfl (OI.nil (Below.refl _ _))
  | some a =>
    refine W.condF rfl (by first | rfl | assumption | (simp only [bnf] <;> omega) | (simp only [*, bnf]; done) | fail) ?_
    (repeat (first | with_reducible refine W.seq ?_ | with_reducible refine Ops.nil ?_ | with_reducible refine W.region ?_ | refine z_p (kk := ?_) | refine z_a (kk := ?_) | refine z_y (kk := ?_) | refine z_n (kk := ?_) | refine z_u (kk := ?_) | with_reducible refine W.skip ?_ | with_reducible refine W.endb ?_ | with_reducible refine W.block ?_ | refine W.exit rfl ?_ | refine z_l (kk := ?_) | refine z_f (kk := ?_) | refine z_M (kk := ?_) | refine z_m (kk := ?_) | refine z_e (kk := ?_) | refine z_E (kk := ?_) | refine z_d (kk := ?_) | refine z_I (kk := fun _ => ?_) | refine z_J (kk := fun _ => ?_) | refine z_K (kk := fun _ => ?_) | refine z_L (kk := fun _ => ?_) | refine z_T (kk := ?_) | refine z_F (kk := ?_) | refine z_k (kk := fun _ _ _ _ _ => ?_) | refine z_w (kk := fun _ _ => ?_) | refine z_s (kk := fun _ _ _ _ => ?_) | refine z_D (kk := ?_) | refine z_g (kk := ?_) | refine z_h (kk := ?_)))
    refine Ops.bs0 rfl rfl rfl rfl rfl (fun w1 r hM => ?_)
    have hO1 : OI 3 (Value.int .i64) w w1 (.slice (some ⟨r, 0, none⟩) 0 0) [] := ⟨Below.put (Below.refl _ _) hM.kp (fun _ e => e.elim), own_zero hM, fun k hk => by have := hM.r_eq; simp [Value.ownBlock] at hk; omega⟩
    (repeat (first | with_reducible refine W.seq ?_ | with_reducible refine Ops.nil ?_ | with_reducible refine W.region ?_ | refine z_p (kk := ?_) | refine z_a (kk := ?_) | refine z_y (kk := ?_) | refine z_n (kk := ?_) | refine z_u (kk := ?_) | with_reducible refine W.skip ?_ | with_reducible refine W.endb ?_ | with_reducible refine W.block ?_ | refine W.exit rfl ?_ | refine z_l (kk := ?_) | refine z_f (kk := ?_) | refine z_M (kk := ?_) | refine z_m (kk := ?_) | refine z_e (kk := ?_) | refine z_E (kk := ?_) | refine z_d (kk := ?_) | refine z_I (kk := fun _ => ?_) | refine z_J (kk := fun _ => ?_) | refine z_K (kk := fun _ => ?_) | refine z_L (kk := fun _ => ?_) | refine z_T (kk := ?_) | refine z_F (kk := ?_) | refine z_k (kk := fun _ _ _ _ _ => ?_) | refine z_w (kk := fun _ _ => ?_) | refine z_s (kk := fun _ _ _ _ => ?_) | refine z_D (kk := ?_) | refine z_g (kk := ?_) | refine z_h (kk := ?_)))
    refine Ops.appO (enc := Value.int .i64) 0 rfl rfl rfl rfl rfl rfl rfl rfl rfl rfl hO1 h hO1.bel (fun _ => rfl) (by simp; omega) (fun v' w2 hO2 k2 hn2 => ?_)
    rw [List.nil_append] at hO2
    (repeat (first | with_reducible refine W.seq ?_ | with_reducible refine Ops.nil ?_ | with_reducible refine W.region ?_ | refine z_p (kk := ?_) | refine z_a (kk := ?_) | refine z_y (kk := ?_) | refine z_n (kk := ?_) | refine z_u (kk := ?_) | with_reducible refine W.skip ?_ | with_reducible refine W.endb ?_ | with_reducible refine W.block ?_ | refine W.exit rfl ?_ | refine z_l (kk := ?_) | refine z_f (kk := ?_) | refine z_M (kk := ?_) | refine z_m (kk := ?_) | refine z_e (kk := ?_) | refine z_E (kk := ?_) | refine z_d (kk := ?_) | refine z_I (kk := fun _ => ?_) | refine z_J (kk := fun _ => ?_) | refine z_K (kk := fun _ => ?_) | refine z_L (kk := fun _ => ?_) | refine z_T (kk := ?_) | refine z_F (kk := ?_) | refine z_k (kk := fun _ _ _ _ _ => ?_) | refine z_w (kk := fun _ _ => ?_) | refine z_s (kk := fun _ _ _ _ => ?_) | refine z_D (kk := ?_) | refine z_g (kk := ?_) | refine z_h (kk := ?_)))
    exact W.fret rfl hO2
theorem better_c {w : World} {g : Nat} {l : List Nd} {dep : List Int} {vv : Value} (hG : Game w g l dep) (i : Int) (h0 : 0 ≤ i) (h1 : i < dep.length) (hv : vv.oneCell' = true) :
    Calls Try.prog 85 #[.pointer (some ⟨g, 0, none⟩), .int .i64 i, vv] w (Ret fun r w' => ∃ b1 b2, r = .func (.func 98) #[] #[.pointer (some ⟨b1, 0, none⟩), .pointer (some ⟨b2, 0, none⟩)] ∧ Blk w' b1 #[.int .i64 (sg dep i)] 3 ∧ Blk w' b2 #[vv] 24 ∧ Below w.heap.size w w' ∧ w.heap.size ≤ b1 ∧ w.heap.size ≤ b2) := by
  refine calls_W (vs := [_, _, _]) Try.func85 rfl (by kernel_rfl) rfl ?_
  (repeat (first | with_reducible refine W.seq ?_ | with_reducible refine Ops.nil ?_ | with_reducible refine W.region ?_ | refine z_p (kk := ?_) | refine z_a (kk := ?_) | refine z_y (kk := ?_) | refine z_n (kk := ?_) | refine z_u (kk := ?_) | with_reducible refine W.skip ?_ | with_reducible refine W.endb ?_ | with_reducible refine W.block ?_ | refine W.exit rfl ?_ | refine z_l (kk := ?_) | refine z_f (kk := ?_) | refine z_M (kk := ?_) | refine z_m (kk := ?_) | refine z_e (kk := ?_) | refine z_E (kk := ?_) | refine z_d (kk := ?_) | refine z_I (kk := fun _ => ?_) | refine z_J (kk := fun _ => ?_) | refine z_K (kk := fun _ => ?_) | refine z_L (kk := fun _ => ?_) | refine z_T (kk := ?_) | refine z_F (kk := ?_) | refine z_k (kk := fun _ _ _ _ _ => ?_) | refine z_w (kk := fun _ _ => ?_) | refine z_s (kk := fun _ _ _ _ => ?_) | refine z_D (kk := ?_) | refine z_g (kk := ?_) | refine z_h (kk := ?_)))
  refine Ops.box rfl rfl rfl rfl (fun w1 b2 hM1 => ?_)
  have hcv : vv.cells = #[vv] := by cases vv <;> simp_all [Value.oneCell', Value.cells]
  rw [hcv] at hM1
  have hB2 : Blk w1 b2 #[vv] 24 := hM1.at_
  have hb1 : Below w.heap.size w w1 := Below.put (Below.refl _ _) hM1.kp (fun _ e => e.elim)
  (repeat (first | with_reducible refine W.seq ?_ | with_reducible refine Ops.nil ?_ | with_reducible refine W.region ?_ | refine z_p (kk := ?_) | refine z_a (kk := ?_) | refine z_y (kk := ?_) | refine z_n (kk := ?_) | refine z_u (kk := ?_) | with_reducible refine W.skip ?_ | with_reducible refine W.endb ?_ | with_reducible refine W.block ?_ | refine W.exit rfl ?_ | refine z_l (kk := ?_) | refine z_f (kk := ?_) | refine z_M (kk := ?_) | refine z_m (kk := ?_) | refine z_e (kk := ?_) | refine z_E (kk := ?_) | refine z_d (kk := ?_) | refine z_I (kk := fun _ => ?_) | refine z_J (kk := fun _ => ?_) | refine z_K (kk := fun _ => ?_) | refine z_L (kk := fun _ => ?_) | refine z_T (kk := ?_) | refine z_F (kk := ?_) | refine z_k (kk := fun _ _ _ _ _ => ?_) | refine z_w (kk := fun _ _ => ?_) | refine z_s (kk := fun _ _ _ _ => ?_) | refine z_D (kk := ?_) | refine z_g (kk := ?_) | refine z_h (kk := ?_)))
  refine Ops.alloc rfl rfl rfl rfl (fun w2 b1 hM2 => ?_)
  have hB2' : Blk w2 b2 #[vv] 24 := hB2.kp hM2.kp (fun e => e)
  have hb2 : Below w.heap.size w w2 := Below.put hb1 hM2.kp (fun _ e => e.elim)
  have e1 := hM1.r_eq
  have e2 := hM2.r_eq
  have e3 := hM1.size
  refine Ops.st rfl rfl rfl rfl rfl rfl rfl hM2.at_ (by simp [Value.cells]) (fun w3 hu3 => ?_)
  have hB1 : Blk w3 b1 #[.int .i64 1] 3 := hu3.blk
  have hB2'' : Blk w3 b2 #[vv] 24 := hB2'.kp hu3.kp (by omega)
  have hb3 : Below w.heap.size w w3 := Below.put hb2 hu3.kp (fun i hi => by omega)
  have hG3 := hG.below hb3
  (repeat (first | with_reducible refine W.seq ?_ | with_reducible refine Ops.nil ?_ | with_reducible refine W.region ?_ | refine z_p (kk := ?_) | refine z_a (kk := ?_) | refine z_y (kk := ?_) | refine z_n (kk := ?_) | refine z_u (kk := ?_) | with_reducible refine W.skip ?_ | with_reducible refine W.endb ?_ | with_reducible refine W.block ?_ | refine W.exit rfl ?_ | refine z_l (kk := ?_) | refine z_f (kk := ?_) | refine z_M (kk := ?_) | refine z_m (kk := ?_) | refine z_e (kk := ?_) | refine z_E (kk := ?_) | refine z_d (kk := ?_) | refine z_I (kk := fun _ => ?_) | refine z_J (kk := fun _ => ?_) | refine z_K (kk := fun _ => ?_) | refine z_L (kk := fun _ => ?_) | refine z_T (kk := ?_) | refine z_F (kk := ?_) | refine z_k (kk := fun _ _ _ _ _ => ?_) | refine z_w (kk := fun _ _ => ?_) | refine z_s (kk := fun _ _ _ _ => ?_) | refine z_D (kk := ?_) | refine z_g (kk := ?_) | refine z_h (kk := ?_)))
  refine Ops.callS rfl rfl rfl rfl rfl (atMax_c hG3 i h0 h1) ?_
  (repeat (first | with_reducible refine W.seq ?_ | with_reducible refine Ops.nil ?_ | with_reducible refine W.region ?_ | refine z_p (kk := ?_) | refine z_a (kk := ?_) | refine z_y (kk := ?_) | refine z_n (kk := ?_) | refine z_u (kk := ?_) | with_reducible refine W.skip ?_ | with_reducible refine W.endb ?_ | with_reducible refine W.block ?_ | refine W.exit rfl ?_ | refine z_l (kk := ?_) | refine z_f (kk := ?_) | refine z_M (kk := ?_) | refine z_m (kk := ?_) | refine z_e (kk := ?_) | refine z_E (kk := ?_) | refine z_d (kk := ?_) | refine z_I (kk := fun _ => ?_) | refine z_J (kk := fun _ => ?_) | refine z_K (kk := fun _ => ?_) | refine z_L (kk := fun _ => ?_) | refine z_T (kk := ?_) | refine z_F (kk := ?_) | refine z_k (kk := fun _ _ _ _ _ => ?_) | refine z_w (kk := fun _ _ => ?_) | refine z_s (kk := fun _ _ _ _ => ?_) | refine z_D (kk := ?_) | refine z_g (kk := ?_) | refine z_h (kk := ?_)))
  cases he : evB dep i with
  | true =>
    refine W.condT rfl (by first | rfl | assumption | (simp only [bnf] <;> omega) | (simp only [*, bnf]; done) | fail) ?_
    (repeat (first | with_reducible refine W.seq ?_ | with_reducible refine Ops.nil ?_ | with_reducible refine W.region ?_ | refine z_p (kk := ?_) | refine z_a (kk := ?_) | refine z_y (kk := ?_) | refine z_n (kk := ?_) | refine z_u (kk := ?_) | with_reducible refine W.skip ?_ | with_reducible refine W.endb ?_ | with_reducible refine W.block ?_ | refine W.exit rfl ?_ | refine z_l (kk := ?_) | refine z_f (kk := ?_) | refine z_M (kk := ?_) | refine z_m (kk := ?_) | refine z_e (kk := ?_) | refine z_E (kk := ?_) | refine z_d (kk := ?_) | refine z_I (kk := fun _ => ?_) | refine z_J (kk := fun _ => ?_) | refine z_K (kk := fun _ => ?_) | refine z_L (kk := fun _ => ?_) | refine z_T (kk := ?_) | refine z_F (kk := ?_) | refine z_k (kk := fun _ _ _ _ _ => ?_) | refine z_w (kk := fun _ _ => ?_) | refine z_s (kk := fun _ _ _ _ => ?_) | refine z_D (kk := ?_) | refine z_g (kk := ?_) | refine z_h (kk := ?_)))
    refine Ops.st rfl rfl rfl rfl rfl rfl rfl hB1 (by simp) (fun w4 hu4 => ?_)
    have hB1' : Blk w4 b1 #[.int .i64 (-1)] 3 := hu4.blk
    have hb4 : Below w.heap.size w w4 := Below.put hb3 hu4.kp (fun i hi => by omega)
    (repeat (first | with_reducible refine W.seq ?_ | with_reducible refine Ops.nil ?_ | with_reducible refine W.region ?_ | refine z_p (kk := ?_) | refine z_a (kk := ?_) | refine z_y (kk := ?_) | refine z_n (kk := ?_) | refine z_u (kk := ?_) | with_reducible refine W.skip ?_ | with_reducible refine W.endb ?_ | with_reducible refine W.block ?_ | refine W.exit rfl ?_ | refine z_l (kk := ?_) | refine z_f (kk := ?_) | refine z_M (kk := ?_) | refine z_m (kk := ?_) | refine z_e (kk := ?_) | refine z_E (kk := ?_) | refine z_d (kk := ?_) | refine z_I (kk := fun _ => ?_) | refine z_J (kk := fun _ => ?_) | refine z_K (kk := fun _ => ?_) | refine z_L (kk := fun _ => ?_) | refine z_T (kk := ?_) | refine z_F (kk := ?_) | refine z_k (kk := fun _ _ _ _ _ => ?_) | refine z_w (kk := fun _ _ => ?_) | refine z_s (kk := fun _ _ _ _ => ?_) | refine z_D (kk := ?_) | refine z_g (kk := ?_) | refine z_h (kk := ?_)))
    exact W.fret rfl ⟨b1, b2, rfl, by rw [sg, he]; exact hB1', hB2''.kp hu4.kp (by omega), hb4, by omega, by omega⟩
  | false =>
    refine W.condF rfl (by first | rfl | assumption | (simp only [bnf] <;> omega) | (simp only [*, bnf]; done) | fail) ?_
    (repeat (first | with_reducible refine W.seq ?_ | with_reducible refine Ops.nil ?_ | with_reducible refine W.region ?_ | refine z_p (kk := ?_) | refine z_a (kk := ?_) | refine z_y (kk := ?_) | refine z_n (kk := ?_) | refine z_u (kk := ?_) | with_reducible refine W.skip ?_ | with_reducible refine W.endb ?_ | with_reducible refine W.block ?_ | refine W.exit rfl ?_ | refine z_l (kk := ?_) | refine z_f (kk := ?_) | refine z_M (kk := ?_) | refine z_m (kk := ?_) | refine z_e (kk := ?_) | refine z_E (kk := ?_) | refine z_d (kk := ?_) | refine z_I (kk := fun _ => ?_) | refine z_J (kk := fun _ => ?_) | refine z_K (kk := fun _ => ?_) | refine z_L (kk := fun _ => ?_) | refine z_T (kk := ?_) | refine z_F (kk := ?_) | refine z_k (kk := fun _ _ _ _ _ => ?_) | refine z_w (kk := fun _ _ => ?_) | refine z_s (kk := fun _ _ _ _ => ?_) | refine z_D (kk := ?_) | refine z_g (kk := ?_) | refine z_h (kk := ?_)))
    exact W.fret rfl ⟨b1, b2, rfl, by rw [sg, he]; exact hB1, hB2'', hb3, by omega, by omega⟩
theorem cmp_c {w : World} {b1 b2 : Nat} {sn : Int} {vv : Value} {vs : List Int} (hB1 : Blk w b1 #[.int .i64 sn] 3) (hB2 : Blk w b2 #[vv] 24) (hs : SlI w vv vs) (hsg : sn = 1 ∨ sn = -1) (hvs : ∀ j : Nat, -1099511627776 ≤ vs.getD j 0 ∧ vs.getD j 0 ≤ 1099511627776) {x y : Int} (hx : 0 ≤ x ∧ x < vs.length) (hy : 0 ≤ y ∧ y < vs.length) :
    Calls Try.prog 98 #[.int .i64 x, .int .i64 y, .pointer (some ⟨b1, 0, none⟩), .pointer (some ⟨b2, 0, none⟩)] w (Ret fun r w' => r =   .int .i64 (sn * (rd vs x - rd vs y)) ∧ Below w.heap.size w w') := by
  obtain ⟨A, c, rfl⟩ := Sl.sl hs
  refine calls_W (vs := [_, _, _, _]) Try.func98 rfl (by kernel_rfl) rfl ?_
  (repeat (first | with_reducible refine W.seq ?_ | with_reducible refine Ops.nil ?_ | with_reducible refine W.region ?_ | refine z_p (kk := ?_) | refine z_a (kk := ?_) | refine z_y (kk := ?_) | refine z_n (kk := ?_) | refine z_u (kk := ?_) | with_reducible refine W.skip ?_ | with_reducible refine W.endb ?_ | with_reducible refine W.block ?_ | refine W.exit rfl ?_ | refine z_l (kk := ?_) | refine z_f (kk := ?_) | refine z_M (kk := ?_) | refine z_m (kk := ?_) | refine z_e (kk := ?_) | refine z_E (kk := ?_) | refine z_d (kk := ?_) | refine z_I (kk := fun _ => ?_) | refine z_J (kk := fun _ => ?_) | refine z_K (kk := fun _ => ?_) | refine z_L (kk := fun _ => ?_) | refine z_T (kk := ?_) | refine z_F (kk := ?_) | refine z_k (kk := fun _ _ _ _ _ => ?_) | refine z_w (kk := fun _ _ => ?_) | refine z_s (kk := fun _ _ _ _ => ?_) | refine z_D (kk := ?_) | refine z_g (kk := ?_) | refine z_h (kk := ?_)))
  refine W.ordA 99 [(0, 2), (1, 2), (2, 1), (3, 1), (4, 2), (5, 2), (6, 1), (7, 1), (8, 2), (9, 1), (10, 1), (11, 1)] rfl (by kernel_rfl) rfl (by kernel_rfl) (fun _ _ _ h => h) ?_
  (repeat (first | refine x_p (kk := ?_) | refine x_n (kk := ?_) | refine x_a (kk := ?_) | refine x_l (kk := ?_) | refine x_M (kk := ?_) | refine x_m (kk := ?_) | refine x_e (kk := ?_) | refine x_E (kk := ?_) | refine x_T (kk := ?_) | refine x_F (kk := ?_) | refine x_I (kk := fun _ => ?_) | refine x_J (kk := fun _ => ?_) | refine x_K (kk := fun _ => ?_) | refine x_L (kk := fun _ => ?_) | refine x_k (kk := fun _ _ _ _ _ => ?_) | refine x_w (kk := fun _ _ => ?_) | refine x_s (kk := fun _ _ _ _ => ?_) | refine x_D (kk := ?_) | refine x_t (kk := ?_) | refine x_f (kk := ?_)))
  have h1 := hvs x.toNat
  have h2 := hvs y.toNat
  simp only [rd]
  generalize vs.getD x.toNat 0 = u at *
  generalize vs.getD y.toNat 0 = v at *
  rcases hsg with rfl | rfl
  · (repeat (first | refine x_p (kk := ?_) | refine x_n (kk := ?_) | refine x_a (kk := ?_) | refine x_l (kk := ?_) | refine x_M (kk := ?_) | refine x_m (kk := ?_) | refine x_e (kk := ?_) | refine x_E (kk := ?_) | refine x_T (kk := ?_) | refine x_F (kk := ?_) | refine x_I (kk := fun _ => ?_) | refine x_J (kk := fun _ => ?_) | refine x_K (kk := fun _ => ?_) | refine x_L (kk := fun _ => ?_) | refine x_k (kk := fun _ _ _ _ _ => ?_) | refine x_w (kk := fun _ _ => ?_) | refine x_s (kk := fun _ _ _ _ => ?_)))
    refine OrdA.nil (fun w2 hb2 => ?_)
    (repeat (first | with_reducible refine W.seq ?_ | with_reducible refine Ops.nil ?_ | with_reducible refine W.region ?_ | refine z_p (kk := ?_) | refine z_a (kk := ?_) | refine z_y (kk := ?_) | refine z_n (kk := ?_) | refine z_u (kk := ?_) | with_reducible refine W.skip ?_ | with_reducible refine W.endb ?_ | with_reducible refine W.block ?_ | refine W.exit rfl ?_ | refine z_l (kk := ?_) | refine z_f (kk := ?_) | refine z_M (kk := ?_) | refine z_m (kk := ?_) | refine z_e (kk := ?_) | refine z_E (kk := ?_) | refine z_d (kk := ?_) | refine z_I (kk := fun _ => ?_) | refine z_J (kk := fun _ => ?_) | refine z_K (kk := fun _ => ?_) | refine z_L (kk := fun _ => ?_) | refine z_T (kk := ?_) | refine z_F (kk := ?_) | refine z_k (kk := fun _ _ _ _ _ => ?_) | refine z_w (kk := fun _ _ => ?_) | refine z_s (kk := fun _ _ _ _ => ?_) | refine z_D (kk := ?_) | refine z_g (kk := ?_) | refine z_h (kk := ?_)))
    exact W.fret rfl ⟨rfl, hb2⟩
  · (repeat (first | refine x_p (kk := ?_) | refine x_n (kk := ?_) | refine x_a (kk := ?_) | refine x_l (kk := ?_) | refine x_M (kk := ?_) | refine x_m (kk := ?_) | refine x_e (kk := ?_) | refine x_E (kk := ?_) | refine x_T (kk := ?_) | refine x_F (kk := ?_) | refine x_I (kk := fun _ => ?_) | refine x_J (kk := fun _ => ?_) | refine x_K (kk := fun _ => ?_) | refine x_L (kk := fun _ => ?_) | refine x_k (kk := fun _ _ _ _ _ => ?_) | refine x_w (kk := fun _ _ => ?_) | refine x_s (kk := fun _ _ _ _ => ?_)))
    refine OrdA.nil (fun w2 hb2 => ?_)
    (repeat (first | with_reducible refine W.seq ?_ | with_reducible refine Ops.nil ?_ | with_reducible refine W.region ?_ | refine z_p (kk := ?_) | refine z_a (kk := ?_) | refine z_y (kk := ?_) | refine z_n (kk := ?_) | refine z_u (kk := ?_) | with_reducible refine W.skip ?_ | with_reducible refine W.endb ?_ | with_reducible refine W.block ?_ | refine W.exit rfl ?_ | refine z_l (kk := ?_) | refine z_f (kk := ?_) | refine z_M (kk := ?_) | refine z_m (kk := ?_) | refine z_e (kk := ?_) | refine z_E (kk := ?_) | refine z_d (kk := ?_) | refine z_I (kk := fun _ => ?_) | refine z_J (kk := fun _ => ?_) | refine z_K (kk := fun _ => ?_) | refine z_L (kk := fun _ => ?_) | refine z_T (kk := ?_) | refine z_F (kk := ?_) | refine z_k (kk := fun _ _ _ _ _ => ?_) | refine z_w (kk := fun _ _ => ?_) | refine z_s (kk := fun _ _ _ _ => ?_) | refine z_D (kk := ?_) | refine z_g (kk := ?_) | refine z_h (kk := ?_)))
    exact W.fret rfl ⟨rfl, hb2⟩
end Go.Proofs.Ytdiljpnfochndaa
