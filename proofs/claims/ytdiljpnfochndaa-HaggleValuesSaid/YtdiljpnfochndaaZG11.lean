/- A part of the walk: what this seat's statements share. -/
import Derived.Test.YtdiljpnfochndaaZG10
import Derived.Test.YtdiljpnfochndaaZG8
set_option linter.unusedVariables false
set_option linter.unusedSimpArgs false
set_option linter.unusedSectionVars false
namespace Go.Proofs.Ytdiljpnfochndaa
open Go Go.RowKit Go.Proofs.Ytdiljpnfochndaa.VW
open Go.Proofs.Ytdiljpnfochndaa.HP (Nd kid wor leafB rd evB gameOf gameOf_TF ValP NV far TF Dn k_ RNeedP RN farR TK take_snoc)
attribute [local irreducible] W Ops OrdA VW.Ord OrdX
theorem rneed_congr {l : List Nd} {dep : List Int} {mx : Bool} {f g : Int → Int} {vs : List Int} (h : RNeedP l dep mx f vs) (e : ∀ j : Nat, j < l.length → leafB l j = true → f j = g j) : RNeedP l dep mx g vs :=
  ⟨h.len, fun j hj => by
    rw [h.at_ j hj]
    unfold RN
    split
    · rename_i hl; exact e j hj hl
    · rfl⟩
def aloneP (l : List Nd) (b i : Int) : Int := if wor l i < b then 1000000 else 1
def aloneR (l : List Nd) (b i : Int) : Int := if b < wor l i then 1000000 else 1

set_option maxHeartbeats 2000000 in
theorem refProof_c {w : World} {v : Value} {l : List Nd} {dep : List Int} {b : Int} (hTr : TreeM w v l) (hT : TF l dep) :
    Calls Try.prog 25 #[v, .int .i64 b] w (Ret fun r w' => Below w.heap.size w w' ∧ ∃ rs : List Int, RNeedP l dep true (aloneP l b) rs ∧ r = .int .i64 (rs.getD 0 0)) := by
  obtain ⟨At, ct, rfl⟩ := hTr.sl
  have hn := hT.n60
  have hn1 := hT.n1
  refine calls_W (vs := [_, _]) Try.func25 rfl (by kernel_rfl) rfl ?_
  (repeat (first | with_reducible refine W.seq ?_ | with_reducible refine Ops.nil ?_ | with_reducible refine W.region ?_ | refine z_p (kk := ?_) | refine z_a (kk := ?_) | refine z_y (kk := ?_) | refine z_n (kk := ?_) | refine z_u (kk := ?_) | with_reducible refine W.skip ?_ | with_reducible refine W.endb ?_ | with_reducible refine W.block ?_ | refine W.exit rfl ?_ | refine z_l (kk := ?_) | refine z_f (kk := ?_) | refine z_M (kk := ?_) | refine z_m (kk := ?_) | refine z_e (kk := ?_) | refine z_E (kk := ?_) | refine z_d (kk := ?_) | refine z_I (kk := fun _ => ?_) | refine z_J (kk := fun _ => ?_) | refine z_K (kk := fun _ => ?_) | refine z_L (kk := fun _ => ?_) | refine z_T (kk := ?_) | refine z_F (kk := ?_) | refine z_k (kk := fun _ _ _ _ _ => ?_) | refine z_w (kk := fun _ _ => ?_) | refine z_s (kk := fun _ _ _ _ => ?_) | refine z_g (kk := ?_) | refine z_h (kk := ?_)))
  refine Ops.mkO (w0 := w) (Value.int .i64) 0 rfl rfl rfl rfl rfl rfl rfl rfl rfl (by omega) rfl (Below.refl _ _) (fun w2 dr hO2 k2 _ => ?_)
  have hlr : (List.replicate l.length (0 : Int)).length = l.length := by simp
  generalize List.replicate l.length (0 : Int) = os2 at *
  (repeat (first | with_reducible refine W.seq ?_ | with_reducible refine Ops.nil ?_ | with_reducible refine W.region ?_ | refine z_p (kk := ?_) | refine z_a (kk := ?_) | refine z_y (kk := ?_) | refine z_n (kk := ?_) | refine z_u (kk := ?_) | with_reducible refine W.skip ?_ | with_reducible refine W.endb ?_ | with_reducible refine W.block ?_ | refine W.exit rfl ?_ | refine z_l (kk := ?_) | refine z_f (kk := ?_) | refine z_M (kk := ?_) | refine z_m (kk := ?_) | refine z_e (kk := ?_) | refine z_E (kk := ?_) | refine z_d (kk := ?_) | refine z_I (kk := fun _ => ?_) | refine z_J (kk := fun _ => ?_) | refine z_K (kk := fun _ => ?_) | refine z_L (kk := fun _ => ?_) | refine z_T (kk := ?_) | refine z_F (kk := ?_) | refine z_k (kk := fun _ _ _ _ _ => ?_) | refine z_w (kk := fun _ _ => ?_) | refine z_s (kk := fun _ _ _ _ => ?_) | refine z_g (kk := ?_) | refine z_h (kk := ?_)))
  refine W.loop (fun m ρ w3 => ∃ (i : Nat) (ws : List Int), m = l.length - i ∧ i ≤ l.length ∧ ρ = [(0, .slice At l.length ct), (1, .int .i64 b), (5, .slice (some ⟨dr, 0, none⟩) l.length l.length), (6, .int .i64 i)] ∧ OI 3 (Value.int .i64) w w3 (.slice (some ⟨dr, 0, none⟩) l.length l.length) ws ∧ ws.length = l.length ∧ ∀ j : Nat, j < i → ws.getD j 0 = aloneP l b j)
    ⟨_, _, ⟨0, _, rfl, Nat.zero_le _, rfl, hO2, hlr, fun j h => by omega⟩, (by repeat (first | exact trivial | refine And.intro rfl ?_))⟩ ?_
  clear hO2 hlr
  rintro m ρ w3 ⟨i, ws, rfl, hi, rfl, hO, hwl, hv⟩
  have hb3 := hO.bel
  have hst : i < l.length → ∀ x, x = aloneP l b i → ∀ j : Nat, j < i + 1 → (ws.set i x).getD j 0 = aloneP l b j := fun hil x hx j hj => by
    by_cases e : i = j
    · subst e
      rw [Go.Proofs.Ytdiljpnfochndaa.HP.getD_set_eq (by omega), hx]
    · rw [Go.Proofs.Ytdiljpnfochndaa.HP.getD_set_ne e]; exact hv j (by omega)
  (repeat (first | with_reducible refine W.seq ?_ | with_reducible refine Ops.nil ?_ | with_reducible refine W.region ?_ | refine z_p (kk := ?_) | refine z_a (kk := ?_) | refine z_y (kk := ?_) | refine z_n (kk := ?_) | refine z_u (kk := ?_) | with_reducible refine W.skip ?_ | with_reducible refine W.endb ?_ | with_reducible refine W.block ?_ | refine W.exit rfl ?_ | refine z_l (kk := ?_) | refine z_f (kk := ?_) | refine z_M (kk := ?_) | refine z_m (kk := ?_) | refine z_e (kk := ?_) | refine z_E (kk := ?_) | refine z_d (kk := ?_) | refine z_I (kk := fun _ => ?_) | refine z_J (kk := fun _ => ?_) | refine z_K (kk := fun _ => ?_) | refine z_L (kk := fun _ => ?_) | refine z_T (kk := ?_) | refine z_F (kk := ?_) | refine z_k (kk := fun _ _ _ _ _ => ?_) | refine z_w (kk := fun _ _ => ?_) | refine z_s (kk := fun _ _ _ _ => ?_) | refine z_g (kk := ?_) | refine z_h (kk := ?_)))
  (first | refine W.condD rfl (fun hc => ?_) (fun hc => ?_) | refine W.condE rfl (fun hc => ?_) (fun hc => ?_) | refine W.condN rfl (fun hc => ?_) (fun hc => ?_) | refine W.cond rfl (fun hc => ?_) (fun hc => ?_))
  · have hil : i < l.length := by omega
    (repeat (first | with_reducible refine W.seq ?_ | with_reducible refine Ops.nil ?_ | with_reducible refine W.region ?_ | refine z_p (kk := ?_) | refine z_a (kk := ?_) | refine z_y (kk := ?_) | refine z_n (kk := ?_) | refine z_u (kk := ?_) | with_reducible refine W.skip ?_ | with_reducible refine W.endb ?_ | with_reducible refine W.block ?_ | refine W.exit rfl ?_ | refine z_l (kk := ?_) | refine z_f (kk := ?_) | refine z_M (kk := ?_) | refine z_m (kk := ?_) | refine z_e (kk := ?_) | refine z_E (kk := ?_) | refine z_d (kk := ?_) | refine z_I (kk := fun _ => ?_) | refine z_J (kk := fun _ => ?_) | refine z_K (kk := fun _ => ?_) | refine z_L (kk := fun _ => ?_) | refine z_T (kk := ?_) | refine z_F (kk := ?_) | refine z_k (kk := fun _ _ _ _ _ => ?_) | refine z_w (kk := fun _ _ => ?_) | refine z_s (kk := fun _ _ _ _ => ?_) | refine z_g (kk := ?_) | refine z_h (kk := ?_)))
    refine Ops.wrO rfl rfl rfl rfl rfl rfl rfl rfl rfl rfl rfl rfl (by simp) rfl hO (by omega) (fun w4 _ hO4 _ _ => ?_)
    have hb4 := hO4.bel
    (repeat (first | with_reducible refine W.seq ?_ | with_reducible refine Ops.nil ?_ | with_reducible refine W.region ?_ | refine z_p (kk := ?_) | refine z_a (kk := ?_) | refine z_y (kk := ?_) | refine z_n (kk := ?_) | refine z_u (kk := ?_) | with_reducible refine W.skip ?_ | with_reducible refine W.endb ?_ | with_reducible refine W.block ?_ | refine W.exit rfl ?_ | refine z_l (kk := ?_) | refine z_f (kk := ?_) | refine z_M (kk := ?_) | refine z_m (kk := ?_) | refine z_e (kk := ?_) | refine z_E (kk := ?_) | refine z_d (kk := ?_) | refine z_I (kk := fun _ => ?_) | refine z_J (kk := fun _ => ?_) | refine z_K (kk := fun _ => ?_) | refine z_L (kk := fun _ => ?_) | refine z_T (kk := ?_) | refine z_F (kk := ?_) | refine z_k (kk := fun _ _ _ _ _ => ?_) | refine z_w (kk := fun _ _ => ?_) | refine z_s (kk := fun _ _ _ _ => ?_) | refine z_g (kk := ?_) | refine z_h (kk := ?_)))
    (first | refine W.condD rfl (fun hc => ?_) (fun hc => ?_) | refine W.condE rfl (fun hc => ?_) (fun hc => ?_) | refine W.condN rfl (fun hc => ?_) (fun hc => ?_) | refine W.cond rfl (fun hc => ?_) (fun hc => ?_))
    · (repeat (first | with_reducible refine W.seq ?_ | with_reducible refine Ops.nil ?_ | with_reducible refine W.region ?_ | refine z_p (kk := ?_) | refine z_a (kk := ?_) | refine z_y (kk := ?_) | refine z_n (kk := ?_) | refine z_u (kk := ?_) | with_reducible refine W.skip ?_ | with_reducible refine W.endb ?_ | with_reducible refine W.block ?_ | refine W.exit rfl ?_ | refine z_l (kk := ?_) | refine z_f (kk := ?_) | refine z_M (kk := ?_) | refine z_m (kk := ?_) | refine z_e (kk := ?_) | refine z_E (kk := ?_) | refine z_d (kk := ?_) | refine z_I (kk := fun _ => ?_) | refine z_J (kk := fun _ => ?_) | refine z_K (kk := fun _ => ?_) | refine z_L (kk := fun _ => ?_) | refine z_T (kk := ?_) | refine z_F (kk := ?_) | refine z_k (kk := fun _ _ _ _ _ => ?_) | refine z_w (kk := fun _ _ => ?_) | refine z_s (kk := fun _ _ _ _ => ?_) | refine z_g (kk := ?_) | refine z_h (kk := ?_)))
      refine Ops.wrO rfl rfl rfl rfl rfl rfl rfl rfl rfl rfl rfl rfl (by simp) rfl hO4 (by simp; omega) (fun w5 _ hO5 _ _ => ?_)
      rw [List.set_set] at hO5
      (repeat (first | with_reducible refine W.seq ?_ | with_reducible refine Ops.nil ?_ | with_reducible refine W.region ?_ | refine z_p (kk := ?_) | refine z_a (kk := ?_) | refine z_y (kk := ?_) | refine z_n (kk := ?_) | refine z_u (kk := ?_) | with_reducible refine W.skip ?_ | with_reducible refine W.endb ?_ | with_reducible refine W.block ?_ | refine W.exit rfl ?_ | refine z_l (kk := ?_) | refine z_f (kk := ?_) | refine z_M (kk := ?_) | refine z_m (kk := ?_) | refine z_e (kk := ?_) | refine z_E (kk := ?_) | refine z_d (kk := ?_) | refine z_I (kk := fun _ => ?_) | refine z_J (kk := fun _ => ?_) | refine z_K (kk := fun _ => ?_) | refine z_L (kk := fun _ => ?_) | refine z_T (kk := ?_) | refine z_F (kk := ?_) | refine z_k (kk := fun _ _ _ _ _ => ?_) | refine z_w (kk := fun _ _ => ?_) | refine z_s (kk := fun _ _ _ _ => ?_) | refine z_g (kk := ?_) | refine z_h (kk := ?_)))
      exact W.endl ⟨_, _, ⟨⟨i + 1, _, rfl, by omega, rfl, hO5, by simp [hwl], hst hil _ (by unfold aloneP; rw [if_pos (by omega)])⟩, by omega⟩, (by repeat (first | exact trivial | refine And.intro rfl ?_))⟩
    · (repeat (first | with_reducible refine W.seq ?_ | with_reducible refine Ops.nil ?_ | with_reducible refine W.region ?_ | refine z_p (kk := ?_) | refine z_a (kk := ?_) | refine z_y (kk := ?_) | refine z_n (kk := ?_) | refine z_u (kk := ?_) | with_reducible refine W.skip ?_ | with_reducible refine W.endb ?_ | with_reducible refine W.block ?_ | refine W.exit rfl ?_ | refine z_l (kk := ?_) | refine z_f (kk := ?_) | refine z_M (kk := ?_) | refine z_m (kk := ?_) | refine z_e (kk := ?_) | refine z_E (kk := ?_) | refine z_d (kk := ?_) | refine z_I (kk := fun _ => ?_) | refine z_J (kk := fun _ => ?_) | refine z_K (kk := fun _ => ?_) | refine z_L (kk := fun _ => ?_) | refine z_T (kk := ?_) | refine z_F (kk := ?_) | refine z_k (kk := fun _ _ _ _ _ => ?_) | refine z_w (kk := fun _ _ => ?_) | refine z_s (kk := fun _ _ _ _ => ?_) | refine z_g (kk := ?_) | refine z_h (kk := ?_)))
      exact W.endl ⟨_, _, ⟨⟨i + 1, _, rfl, by omega, rfl, hO4, by simp [hwl], hst hil _ (by unfold aloneP; rw [if_neg (by omega)])⟩, by omega⟩, (by repeat (first | exact trivial | refine And.intro rfl ?_))⟩
  · have hil : i = l.length := by omega
    subst hil
    (repeat (first | with_reducible refine W.seq ?_ | with_reducible refine Ops.nil ?_ | with_reducible refine W.region ?_ | refine z_p (kk := ?_) | refine z_a (kk := ?_) | refine z_y (kk := ?_) | refine z_n (kk := ?_) | refine z_u (kk := ?_) | with_reducible refine W.skip ?_ | with_reducible refine W.endb ?_ | with_reducible refine W.block ?_ | refine W.exit rfl ?_ | refine z_l (kk := ?_) | refine z_f (kk := ?_) | refine z_M (kk := ?_) | refine z_m (kk := ?_) | refine z_e (kk := ?_) | refine z_E (kk := ?_) | refine z_d (kk := ?_) | refine z_I (kk := fun _ => ?_) | refine z_J (kk := fun _ => ?_) | refine z_K (kk := fun _ => ?_) | refine z_L (kk := fun _ => ?_) | refine z_T (kk := ?_) | refine z_F (kk := ?_) | refine z_k (kk := fun _ _ _ _ _ => ?_) | refine z_w (kk := fun _ _ => ?_) | refine z_s (kk := fun _ _ _ _ => ?_) | refine z_g (kk := ?_) | refine z_h (kk := ?_)))
    refine Ops.call rfl rfl rfl rfl rfl (needs_c (hTr.below hb3) hT hO.sl hwl (fun j hj => by rw [hv j hj]; unfold aloneP; split <;> omega)) (fun r w4 hR => ?_)
    obtain ⟨hb4, rs, hrs, rfl⟩ := hR
    (repeat (first | with_reducible refine W.seq ?_ | with_reducible refine Ops.nil ?_ | with_reducible refine W.region ?_ | refine z_p (kk := ?_) | refine z_a (kk := ?_) | refine z_y (kk := ?_) | refine z_n (kk := ?_) | refine z_u (kk := ?_) | with_reducible refine W.skip ?_ | with_reducible refine W.endb ?_ | with_reducible refine W.block ?_ | refine W.exit rfl ?_ | refine z_l (kk := ?_) | refine z_f (kk := ?_) | refine z_M (kk := ?_) | refine z_m (kk := ?_) | refine z_e (kk := ?_) | refine z_E (kk := ?_) | refine z_d (kk := ?_) | refine z_I (kk := fun _ => ?_) | refine z_J (kk := fun _ => ?_) | refine z_K (kk := fun _ => ?_) | refine z_L (kk := fun _ => ?_) | refine z_T (kk := ?_) | refine z_F (kk := ?_) | refine z_k (kk := fun _ _ _ _ _ => ?_) | refine z_w (kk := fun _ _ => ?_) | refine z_s (kk := fun _ _ _ _ => ?_) | refine z_g (kk := ?_) | refine z_h (kk := ?_)))
    exact W.fret rfl ⟨Below.via hb3 hb4, rs, rneed_congr hrs fun j hj _ => hv j hj, rfl⟩

set_option maxHeartbeats 2000000 in
theorem refRefute_c {w : World} {v : Value} {l : List Nd} {dep : List Int} {b : Int} (hTr : TreeM w v l) (hT : TF l dep) :
    Calls Try.prog 27 #[v, .int .i64 b] w (Ret fun r w' => Below w.heap.size w w' ∧ ∃ rs : List Int, RNeedP l dep false (aloneR l b) rs ∧ r = .int .i64 (rs.getD 0 0)) := by
  obtain ⟨At, ct, rfl⟩ := hTr.sl
  have hn := hT.n60
  have hn1 := hT.n1
  refine calls_W (vs := [_, _]) Try.func27 rfl (by kernel_rfl) rfl ?_
  (repeat (first | with_reducible refine W.seq ?_ | with_reducible refine Ops.nil ?_ | with_reducible refine W.region ?_ | refine z_p (kk := ?_) | refine z_a (kk := ?_) | refine z_y (kk := ?_) | refine z_n (kk := ?_) | refine z_u (kk := ?_) | with_reducible refine W.skip ?_ | with_reducible refine W.endb ?_ | with_reducible refine W.block ?_ | refine W.exit rfl ?_ | refine z_l (kk := ?_) | refine z_f (kk := ?_) | refine z_M (kk := ?_) | refine z_m (kk := ?_) | refine z_e (kk := ?_) | refine z_E (kk := ?_) | refine z_d (kk := ?_) | refine z_I (kk := fun _ => ?_) | refine z_J (kk := fun _ => ?_) | refine z_K (kk := fun _ => ?_) | refine z_L (kk := fun _ => ?_) | refine z_T (kk := ?_) | refine z_F (kk := ?_) | refine z_k (kk := fun _ _ _ _ _ => ?_) | refine z_w (kk := fun _ _ => ?_) | refine z_s (kk := fun _ _ _ _ => ?_) | refine z_g (kk := ?_) | refine z_h (kk := ?_)))
  refine Ops.mkO (w0 := w) (Value.int .i64) 0 rfl rfl rfl rfl rfl rfl rfl rfl rfl (by omega) rfl (Below.refl _ _) (fun w2 dr hO2 k2 _ => ?_)
  have hlr : (List.replicate l.length (0 : Int)).length = l.length := by simp
  generalize List.replicate l.length (0 : Int) = os2 at *
  (repeat (first | with_reducible refine W.seq ?_ | with_reducible refine Ops.nil ?_ | with_reducible refine W.region ?_ | refine z_p (kk := ?_) | refine z_a (kk := ?_) | refine z_y (kk := ?_) | refine z_n (kk := ?_) | refine z_u (kk := ?_) | with_reducible refine W.skip ?_ | with_reducible refine W.endb ?_ | with_reducible refine W.block ?_ | refine W.exit rfl ?_ | refine z_l (kk := ?_) | refine z_f (kk := ?_) | refine z_M (kk := ?_) | refine z_m (kk := ?_) | refine z_e (kk := ?_) | refine z_E (kk := ?_) | refine z_d (kk := ?_) | refine z_I (kk := fun _ => ?_) | refine z_J (kk := fun _ => ?_) | refine z_K (kk := fun _ => ?_) | refine z_L (kk := fun _ => ?_) | refine z_T (kk := ?_) | refine z_F (kk := ?_) | refine z_k (kk := fun _ _ _ _ _ => ?_) | refine z_w (kk := fun _ _ => ?_) | refine z_s (kk := fun _ _ _ _ => ?_) | refine z_g (kk := ?_) | refine z_h (kk := ?_)))
  refine W.loop (fun m ρ w3 => ∃ (i : Nat) (ws : List Int), m = l.length - i ∧ i ≤ l.length ∧ ρ = [(0, .slice At l.length ct), (1, .int .i64 b), (5, .slice (some ⟨dr, 0, none⟩) l.length l.length), (6, .int .i64 i)] ∧ OI 3 (Value.int .i64) w w3 (.slice (some ⟨dr, 0, none⟩) l.length l.length) ws ∧ ws.length = l.length ∧ ∀ j : Nat, j < i → ws.getD j 0 = aloneR l b j)
    ⟨_, _, ⟨0, _, rfl, Nat.zero_le _, rfl, hO2, hlr, fun j h => by omega⟩, (by repeat (first | exact trivial | refine And.intro rfl ?_))⟩ ?_
  clear hO2 hlr
  rintro m ρ w3 ⟨i, ws, rfl, hi, rfl, hO, hwl, hv⟩
  have hb3 := hO.bel
  have hst : i < l.length → ∀ x, x = aloneR l b i → ∀ j : Nat, j < i + 1 → (ws.set i x).getD j 0 = aloneR l b j := fun hil x hx j hj => by
    by_cases e : i = j
    · subst e
      rw [Go.Proofs.Ytdiljpnfochndaa.HP.getD_set_eq (by omega), hx]
    · rw [Go.Proofs.Ytdiljpnfochndaa.HP.getD_set_ne e]; exact hv j (by omega)
  (repeat (first | with_reducible refine W.seq ?_ | with_reducible refine Ops.nil ?_ | with_reducible refine W.region ?_ | refine z_p (kk := ?_) | refine z_a (kk := ?_) | refine z_y (kk := ?_) | refine z_n (kk := ?_) | refine z_u (kk := ?_) | with_reducible refine W.skip ?_ | with_reducible refine W.endb ?_ | with_reducible refine W.block ?_ | refine W.exit rfl ?_ | refine z_l (kk := ?_) | refine z_f (kk := ?_) | refine z_M (kk := ?_) | refine z_m (kk := ?_) | refine z_e (kk := ?_) | refine z_E (kk := ?_) | refine z_d (kk := ?_) | refine z_I (kk := fun _ => ?_) | refine z_J (kk := fun _ => ?_) | refine z_K (kk := fun _ => ?_) | refine z_L (kk := fun _ => ?_) | refine z_T (kk := ?_) | refine z_F (kk := ?_) | refine z_k (kk := fun _ _ _ _ _ => ?_) | refine z_w (kk := fun _ _ => ?_) | refine z_s (kk := fun _ _ _ _ => ?_) | refine z_g (kk := ?_) | refine z_h (kk := ?_)))
  (first | refine W.condD rfl (fun hc => ?_) (fun hc => ?_) | refine W.condE rfl (fun hc => ?_) (fun hc => ?_) | refine W.condN rfl (fun hc => ?_) (fun hc => ?_) | refine W.cond rfl (fun hc => ?_) (fun hc => ?_))
  · have hil : i < l.length := by omega
    (repeat (first | with_reducible refine W.seq ?_ | with_reducible refine Ops.nil ?_ | with_reducible refine W.region ?_ | refine z_p (kk := ?_) | refine z_a (kk := ?_) | refine z_y (kk := ?_) | refine z_n (kk := ?_) | refine z_u (kk := ?_) | with_reducible refine W.skip ?_ | with_reducible refine W.endb ?_ | with_reducible refine W.block ?_ | refine W.exit rfl ?_ | refine z_l (kk := ?_) | refine z_f (kk := ?_) | refine z_M (kk := ?_) | refine z_m (kk := ?_) | refine z_e (kk := ?_) | refine z_E (kk := ?_) | refine z_d (kk := ?_) | refine z_I (kk := fun _ => ?_) | refine z_J (kk := fun _ => ?_) | refine z_K (kk := fun _ => ?_) | refine z_L (kk := fun _ => ?_) | refine z_T (kk := ?_) | refine z_F (kk := ?_) | refine z_k (kk := fun _ _ _ _ _ => ?_) | refine z_w (kk := fun _ _ => ?_) | refine z_s (kk := fun _ _ _ _ => ?_) | refine z_g (kk := ?_) | refine z_h (kk := ?_)))
    refine Ops.wrO rfl rfl rfl rfl rfl rfl rfl rfl rfl rfl rfl rfl (by simp) rfl hO (by omega) (fun w4 _ hO4 _ _ => ?_)
    have hb4 := hO4.bel
    (repeat (first | with_reducible refine W.seq ?_ | with_reducible refine Ops.nil ?_ | with_reducible refine W.region ?_ | refine z_p (kk := ?_) | refine z_a (kk := ?_) | refine z_y (kk := ?_) | refine z_n (kk := ?_) | refine z_u (kk := ?_) | with_reducible refine W.skip ?_ | with_reducible refine W.endb ?_ | with_reducible refine W.block ?_ | refine W.exit rfl ?_ | refine z_l (kk := ?_) | refine z_f (kk := ?_) | refine z_M (kk := ?_) | refine z_m (kk := ?_) | refine z_e (kk := ?_) | refine z_E (kk := ?_) | refine z_d (kk := ?_) | refine z_I (kk := fun _ => ?_) | refine z_J (kk := fun _ => ?_) | refine z_K (kk := fun _ => ?_) | refine z_L (kk := fun _ => ?_) | refine z_T (kk := ?_) | refine z_F (kk := ?_) | refine z_k (kk := fun _ _ _ _ _ => ?_) | refine z_w (kk := fun _ _ => ?_) | refine z_s (kk := fun _ _ _ _ => ?_) | refine z_g (kk := ?_) | refine z_h (kk := ?_)))
    (first | refine W.condD rfl (fun hc => ?_) (fun hc => ?_) | refine W.condE rfl (fun hc => ?_) (fun hc => ?_) | refine W.condN rfl (fun hc => ?_) (fun hc => ?_) | refine W.cond rfl (fun hc => ?_) (fun hc => ?_))
    · (repeat (first | with_reducible refine W.seq ?_ | with_reducible refine Ops.nil ?_ | with_reducible refine W.region ?_ | refine z_p (kk := ?_) | refine z_a (kk := ?_) | refine z_y (kk := ?_) | refine z_n (kk := ?_) | refine z_u (kk := ?_) | with_reducible refine W.skip ?_ | with_reducible refine W.endb ?_ | with_reducible refine W.block ?_ | refine W.exit rfl ?_ | refine z_l (kk := ?_) | refine z_f (kk := ?_) | refine z_M (kk := ?_) | refine z_m (kk := ?_) | refine z_e (kk := ?_) | refine z_E (kk := ?_) | refine z_d (kk := ?_) | refine z_I (kk := fun _ => ?_) | refine z_J (kk := fun _ => ?_) | refine z_K (kk := fun _ => ?_) | refine z_L (kk := fun _ => ?_) | refine z_T (kk := ?_) | refine z_F (kk := ?_) | refine z_k (kk := fun _ _ _ _ _ => ?_) | refine z_w (kk := fun _ _ => ?_) | refine z_s (kk := fun _ _ _ _ => ?_) | refine z_g (kk := ?_) | refine z_h (kk := ?_)))
      refine Ops.wrO rfl rfl rfl rfl rfl rfl rfl rfl rfl rfl rfl rfl (by simp) rfl hO4 (by simp; omega) (fun w5 _ hO5 _ _ => ?_)
      rw [List.set_set] at hO5
      (repeat (first | with_reducible refine W.seq ?_ | with_reducible refine Ops.nil ?_ | with_reducible refine W.region ?_ | refine z_p (kk := ?_) | refine z_a (kk := ?_) | refine z_y (kk := ?_) | refine z_n (kk := ?_) | refine z_u (kk := ?_) | with_reducible refine W.skip ?_ | with_reducible refine W.endb ?_ | with_reducible refine W.block ?_ | refine W.exit rfl ?_ | refine z_l (kk := ?_) | refine z_f (kk := ?_) | refine z_M (kk := ?_) | refine z_m (kk := ?_) | refine z_e (kk := ?_) | refine z_E (kk := ?_) | refine z_d (kk := ?_) | refine z_I (kk := fun _ => ?_) | refine z_J (kk := fun _ => ?_) | refine z_K (kk := fun _ => ?_) | refine z_L (kk := fun _ => ?_) | refine z_T (kk := ?_) | refine z_F (kk := ?_) | refine z_k (kk := fun _ _ _ _ _ => ?_) | refine z_w (kk := fun _ _ => ?_) | refine z_s (kk := fun _ _ _ _ => ?_) | refine z_g (kk := ?_) | refine z_h (kk := ?_)))
      exact W.endl ⟨_, _, ⟨⟨i + 1, _, rfl, by omega, rfl, hO5, by simp [hwl], hst hil _ (by unfold aloneR; rw [if_pos (by omega)])⟩, by omega⟩, (by repeat (first | exact trivial | refine And.intro rfl ?_))⟩
    · (repeat (first | with_reducible refine W.seq ?_ | with_reducible refine Ops.nil ?_ | with_reducible refine W.region ?_ | refine z_p (kk := ?_) | refine z_a (kk := ?_) | refine z_y (kk := ?_) | refine z_n (kk := ?_) | refine z_u (kk := ?_) | with_reducible refine W.skip ?_ | with_reducible refine W.endb ?_ | with_reducible refine W.block ?_ | refine W.exit rfl ?_ | refine z_l (kk := ?_) | refine z_f (kk := ?_) | refine z_M (kk := ?_) | refine z_m (kk := ?_) | refine z_e (kk := ?_) | refine z_E (kk := ?_) | refine z_d (kk := ?_) | refine z_I (kk := fun _ => ?_) | refine z_J (kk := fun _ => ?_) | refine z_K (kk := fun _ => ?_) | refine z_L (kk := fun _ => ?_) | refine z_T (kk := ?_) | refine z_F (kk := ?_) | refine z_k (kk := fun _ _ _ _ _ => ?_) | refine z_w (kk := fun _ _ => ?_) | refine z_s (kk := fun _ _ _ _ => ?_) | refine z_g (kk := ?_) | refine z_h (kk := ?_)))
      exact W.endl ⟨_, _, ⟨⟨i + 1, _, rfl, by omega, rfl, hO4, by simp [hwl], hst hil _ (by unfold aloneR; rw [if_neg (by omega)])⟩, by omega⟩, (by repeat (first | exact trivial | refine And.intro rfl ?_))⟩
  · have hil : i = l.length := by omega
    subst hil
    (repeat (first | with_reducible refine W.seq ?_ | with_reducible refine Ops.nil ?_ | with_reducible refine W.region ?_ | refine z_p (kk := ?_) | refine z_a (kk := ?_) | refine z_y (kk := ?_) | refine z_n (kk := ?_) | refine z_u (kk := ?_) | with_reducible refine W.skip ?_ | with_reducible refine W.endb ?_ | with_reducible refine W.block ?_ | refine W.exit rfl ?_ | refine z_l (kk := ?_) | refine z_f (kk := ?_) | refine z_M (kk := ?_) | refine z_m (kk := ?_) | refine z_e (kk := ?_) | refine z_E (kk := ?_) | refine z_d (kk := ?_) | refine z_I (kk := fun _ => ?_) | refine z_J (kk := fun _ => ?_) | refine z_K (kk := fun _ => ?_) | refine z_L (kk := fun _ => ?_) | refine z_T (kk := ?_) | refine z_F (kk := ?_) | refine z_k (kk := fun _ _ _ _ _ => ?_) | refine z_w (kk := fun _ _ => ?_) | refine z_s (kk := fun _ _ _ _ => ?_) | refine z_g (kk := ?_) | refine z_h (kk := ?_)))
    refine Ops.call rfl rfl rfl rfl rfl (needs_c (hTr.below hb3) hT hO.sl hwl (fun j hj => by rw [hv j hj]; unfold aloneR; split <;> omega)) (fun r w4 hR => ?_)
    obtain ⟨hb4, rs, hrs, rfl⟩ := hR
    (repeat (first | with_reducible refine W.seq ?_ | with_reducible refine Ops.nil ?_ | with_reducible refine W.region ?_ | refine z_p (kk := ?_) | refine z_a (kk := ?_) | refine z_y (kk := ?_) | refine z_n (kk := ?_) | refine z_u (kk := ?_) | with_reducible refine W.skip ?_ | with_reducible refine W.endb ?_ | with_reducible refine W.block ?_ | refine W.exit rfl ?_ | refine z_l (kk := ?_) | refine z_f (kk := ?_) | refine z_M (kk := ?_) | refine z_m (kk := ?_) | refine z_e (kk := ?_) | refine z_E (kk := ?_) | refine z_d (kk := ?_) | refine z_I (kk := fun _ => ?_) | refine z_J (kk := fun _ => ?_) | refine z_K (kk := fun _ => ?_) | refine z_L (kk := fun _ => ?_) | refine z_T (kk := ?_) | refine z_F (kk := ?_) | refine z_k (kk := fun _ _ _ _ _ => ?_) | refine z_w (kk := fun _ _ => ?_) | refine z_s (kk := fun _ _ _ _ => ?_) | refine z_g (kk := ?_) | refine z_h (kk := ?_)))
    exact W.fret rfl ⟨Below.via hb3 hb4, rs, rneed_congr hrs fun j hj _ => hv j hj, rfl⟩

theorem refValues_c {w : World} {v : Value} {l : List Nd} {dep : List Int} (hTr : TreeM w v l) (hT : TF l dep) :
    Calls Try.prog 23 #[v] w (Ret fun r w' => ∃ vs : List Int, OI 3 (Value.int .i64) w w' r vs ∧ ValP l dep (wor l) vs) := by
  obtain ⟨At, ct, rfl⟩ := hTr.sl
  have hn := hT.n60
  have hn1 := hT.n1
  refine calls_W (vs := [_]) Try.func23 rfl (by kernel_rfl) rfl ?_
  (repeat (first | with_reducible refine W.seq ?_ | with_reducible refine Ops.nil ?_ | with_reducible refine W.region ?_ | refine z_p (kk := ?_) | refine z_a (kk := ?_) | refine z_y (kk := ?_) | refine z_n (kk := ?_) | refine z_u (kk := ?_) | with_reducible refine W.skip ?_ | with_reducible refine W.endb ?_ | with_reducible refine W.block ?_ | refine W.exit rfl ?_ | refine z_l (kk := ?_) | refine z_f (kk := ?_) | refine z_M (kk := ?_) | refine z_m (kk := ?_) | refine z_e (kk := ?_) | refine z_E (kk := ?_) | refine z_d (kk := ?_) | refine z_I (kk := fun _ => ?_) | refine z_J (kk := fun _ => ?_) | refine z_K (kk := fun _ => ?_) | refine z_L (kk := fun _ => ?_) | refine z_T (kk := ?_) | refine z_F (kk := ?_) | refine z_k (kk := fun _ _ _ _ _ => ?_) | refine z_w (kk := fun _ _ => ?_) | refine z_s (kk := fun _ _ _ _ => ?_) | refine z_g (kk := ?_) | refine z_h (kk := ?_)))
  refine W.loop (fun m ρ w3 => ∃ (i : Nat) (ov : Value) (ws : List Int), m = l.length - i ∧ i ≤ l.length ∧ ρ = [(0, .slice At l.length ct), (3, ov), (4, .int .i64 i)] ∧ OI 3 (Value.int .i64) w w3 ov ws ∧ ws.length = i ∧ ∀ j : Nat, j < i → ws.getD j 0 = wor l j)
    ⟨_, _, ⟨0, _, _, rfl, Nat.zero_le _, rfl, OI.nil (Below.refl _ _), rfl, fun j h => by omega⟩, (by repeat (first | exact trivial | refine And.intro rfl ?_))⟩ ?_
  rintro m ρ w3 ⟨i, ov, ws, rfl, hi, rfl, hO, hwl, hv⟩
  have hb3 := hO.bel
  (repeat (first | with_reducible refine W.seq ?_ | with_reducible refine Ops.nil ?_ | with_reducible refine W.region ?_ | refine z_p (kk := ?_) | refine z_a (kk := ?_) | refine z_y (kk := ?_) | refine z_n (kk := ?_) | refine z_u (kk := ?_) | with_reducible refine W.skip ?_ | with_reducible refine W.endb ?_ | with_reducible refine W.block ?_ | refine W.exit rfl ?_ | refine z_l (kk := ?_) | refine z_f (kk := ?_) | refine z_M (kk := ?_) | refine z_m (kk := ?_) | refine z_e (kk := ?_) | refine z_E (kk := ?_) | refine z_d (kk := ?_) | refine z_I (kk := fun _ => ?_) | refine z_J (kk := fun _ => ?_) | refine z_K (kk := fun _ => ?_) | refine z_L (kk := fun _ => ?_) | refine z_T (kk := ?_) | refine z_F (kk := ?_) | refine z_k (kk := fun _ _ _ _ _ => ?_) | refine z_w (kk := fun _ _ => ?_) | refine z_s (kk := fun _ _ _ _ => ?_) | refine z_g (kk := ?_) | refine z_h (kk := ?_)))
  (first | refine W.condD rfl (fun hc => ?_) (fun hc => ?_) | refine W.condE rfl (fun hc => ?_) (fun hc => ?_) | refine W.condN rfl (fun hc => ?_) (fun hc => ?_) | refine W.cond rfl (fun hc => ?_) (fun hc => ?_))
  · (repeat (first | with_reducible refine W.seq ?_ | with_reducible refine Ops.nil ?_ | with_reducible refine W.region ?_ | refine z_p (kk := ?_) | refine z_a (kk := ?_) | refine z_y (kk := ?_) | refine z_n (kk := ?_) | refine z_u (kk := ?_) | with_reducible refine W.skip ?_ | with_reducible refine W.endb ?_ | with_reducible refine W.block ?_ | refine W.exit rfl ?_ | refine z_l (kk := ?_) | refine z_f (kk := ?_) | refine z_M (kk := ?_) | refine z_m (kk := ?_) | refine z_e (kk := ?_) | refine z_E (kk := ?_) | refine z_d (kk := ?_) | refine z_I (kk := fun _ => ?_) | refine z_J (kk := fun _ => ?_) | refine z_K (kk := fun _ => ?_) | refine z_L (kk := fun _ => ?_) | refine z_T (kk := ?_) | refine z_F (kk := ?_) | refine z_k (kk := fun _ _ _ _ _ => ?_) | refine z_w (kk := fun _ _ => ?_) | refine z_s (kk := fun _ _ _ _ => ?_) | refine z_g (kk := ?_) | refine z_h (kk := ?_)))
    refine Ops.pushO (enc := Value.int .i64) rfl rfl rfl rfl rfl rfl rfl rfl rfl rfl rfl rfl (fun _ => rfl) rfl hO (by omega) (fun lv' _ w5 hO5 _ _ => ?_)
    (repeat (first | with_reducible refine W.seq ?_ | with_reducible refine Ops.nil ?_ | with_reducible refine W.region ?_ | refine z_p (kk := ?_) | refine z_a (kk := ?_) | refine z_y (kk := ?_) | refine z_n (kk := ?_) | refine z_u (kk := ?_) | with_reducible refine W.skip ?_ | with_reducible refine W.endb ?_ | with_reducible refine W.block ?_ | refine W.exit rfl ?_ | refine z_l (kk := ?_) | refine z_f (kk := ?_) | refine z_M (kk := ?_) | refine z_m (kk := ?_) | refine z_e (kk := ?_) | refine z_E (kk := ?_) | refine z_d (kk := ?_) | refine z_I (kk := fun _ => ?_) | refine z_J (kk := fun _ => ?_) | refine z_K (kk := fun _ => ?_) | refine z_L (kk := fun _ => ?_) | refine z_T (kk := ?_) | refine z_F (kk := ?_) | refine z_k (kk := fun _ _ _ _ _ => ?_) | refine z_w (kk := fun _ _ => ?_) | refine z_s (kk := fun _ _ _ _ => ?_) | refine z_g (kk := ?_) | refine z_h (kk := ?_)))
    refine W.endl ⟨_, _, ⟨⟨i + 1, _, _, rfl, by omega, rfl, hO5, by simp [hwl], fun j hj => ?_⟩, by omega⟩, (by repeat (first | exact trivial | refine And.intro rfl ?_))⟩
    by_cases e : j = i
    · subst e; rw [app_last hwl.symm]
    · rw [app_getD (by omega)]; exact hv j (by omega)
  · have hil : i = l.length := by omega
    subst hil
    (repeat (first | with_reducible refine W.seq ?_ | with_reducible refine Ops.nil ?_ | with_reducible refine W.region ?_ | refine z_p (kk := ?_) | refine z_a (kk := ?_) | refine z_y (kk := ?_) | refine z_n (kk := ?_) | refine z_u (kk := ?_) | with_reducible refine W.skip ?_ | with_reducible refine W.endb ?_ | with_reducible refine W.block ?_ | refine W.exit rfl ?_ | refine z_l (kk := ?_) | refine z_f (kk := ?_) | refine z_M (kk := ?_) | refine z_m (kk := ?_) | refine z_e (kk := ?_) | refine z_E (kk := ?_) | refine z_d (kk := ?_) | refine z_I (kk := fun _ => ?_) | refine z_J (kk := fun _ => ?_) | refine z_K (kk := fun _ => ?_) | refine z_L (kk := fun _ => ?_) | refine z_T (kk := ?_) | refine z_F (kk := ?_) | refine z_k (kk := fun _ _ _ _ _ => ?_) | refine z_w (kk := fun _ _ => ?_) | refine z_s (kk := fun _ _ _ _ => ?_) | refine z_g (kk := ?_) | refine z_h (kk := ?_)))
    refine Ops.call rfl rfl rfl rfl rfl (backed_c (hTr.below hb3) hT hO.sl hwl) (fun r w4 hR => ?_)
    obtain ⟨vs, hO4, hvs⟩ := hR
    (repeat (first | with_reducible refine W.seq ?_ | with_reducible refine Ops.nil ?_ | with_reducible refine W.region ?_ | refine z_p (kk := ?_) | refine z_a (kk := ?_) | refine z_y (kk := ?_) | refine z_n (kk := ?_) | refine z_u (kk := ?_) | with_reducible refine W.skip ?_ | with_reducible refine W.endb ?_ | with_reducible refine W.block ?_ | refine W.exit rfl ?_ | refine z_l (kk := ?_) | refine z_f (kk := ?_) | refine z_M (kk := ?_) | refine z_m (kk := ?_) | refine z_e (kk := ?_) | refine z_E (kk := ?_) | refine z_d (kk := ?_) | refine z_I (kk := fun _ => ?_) | refine z_J (kk := fun _ => ?_) | refine z_K (kk := fun _ => ?_) | refine z_L (kk := fun _ => ?_) | refine z_T (kk := ?_) | refine z_F (kk := ?_) | refine z_k (kk := fun _ _ _ _ _ => ?_) | refine z_w (kk := fun _ _ => ?_) | refine z_s (kk := fun _ _ _ _ => ?_) | refine z_g (kk := ?_) | refine z_h (kk := ?_)))
    exact W.fret rfl ⟨vs, hO4.up hb3, valP_congr hvs fun j hj _ => hv j hj⟩
end Go.Proofs.Ytdiljpnfochndaa
namespace Go.Proofs.Ytdiljpnfochndaa
open Go Go.RowKit Go.Proofs.Ytdiljpnfochndaa.VW
open Go.Proofs.Ytdiljpnfochndaa.HP (Nd kid wor leafB rd evB gameOf gameOf_TF ValP NV far TF Dn k_ RNeedP RN farR TK take_snoc)
attribute [local irreducible] W Ops OrdA VW.Ord OrdX
def yesF (l : List Nd) (xs : List Int) (b i : Int) : Int := if xs.contains i then (if wor l i < b then 1000000 else 0) else 1
def noF (l : List Nd) (xs : List Int) (b i : Int) : Int := if xs.contains i then (if wor l i < b then 0 else 1000000) else 1
def fixN (x : Int) : Int := if 1000000 ≤ x then -1 else x
theorem contains_snoc {xs : List Int} {i : Nat} (h : i < xs.length) (x : Int) : (xs.take (i + 1)).contains x = ((xs.take i).contains x || x == xs.getD i 0) := by
  rw [take_snoc xs i h, show (x == xs.getD i 0) = decide (x = xs.getD i 0) from rfl]
  simp [List.contains_eq_mem]
set_option maxHeartbeats 4000000 in
theorem refNumbers_c {w : World} {v sv : Value} {l : List Nd} {dep xs : List Int} {b : Int} (hTr : TreeM w v l) (hT : TF l dep) (hS : SlI w sv xs) (hls : Listed l xs) :
    Calls Try.prog 32 #[v, sv, .int .i64 b] w (Ret fun r w' => Below w.heap.size w w' ∧ ∃ rs qs : List Int, RNeedP l dep true (yesF l xs b) rs ∧ RNeedP l dep false (noF l xs b) qs ∧ r = .tuple #[.int .i64 (fixN (rs.getD 0 0)), .int .i64 (fixN (qs.getD 0 0))]) := by
  obtain ⟨At, ct, rfl⟩ := hTr.sl
  have hxl := Sl.len hS
  obtain ⟨As, cs, rfl⟩ := Sl.sl hS
  have hn := hT.n60
  have hn1 := hT.n1
  refine calls_W (vs := [_, _, _]) Try.func32 rfl (by kernel_rfl) rfl ?_
  (repeat (first | with_reducible refine W.seq ?_ | with_reducible refine Ops.nil ?_ | with_reducible refine W.region ?_ | refine z_p (kk := ?_) | refine z_a (kk := ?_) | refine z_y (kk := ?_) | refine z_n (kk := ?_) | refine z_u (kk := ?_) | with_reducible refine W.skip ?_ | with_reducible refine W.endb ?_ | with_reducible refine W.block ?_ | refine W.exit rfl ?_ | refine z_l (kk := ?_) | refine z_f (kk := ?_) | refine z_M (kk := ?_) | refine z_m (kk := ?_) | refine z_e (kk := ?_) | refine z_E (kk := ?_) | refine z_d (kk := ?_) | refine z_I (kk := fun _ => ?_) | refine z_J (kk := fun _ => ?_) | refine z_K (kk := fun _ => ?_) | refine z_L (kk := fun _ => ?_) | refine z_T (kk := ?_) | refine z_F (kk := ?_) | refine z_k (kk := fun _ _ _ _ _ => ?_) | refine z_w (kk := fun _ _ => ?_) | refine z_s (kk := fun _ _ _ _ => ?_) | refine z_g (kk := ?_) | refine z_h (kk := ?_)))
  have hlr : (List.replicate l.length (0 : Int)).length = l.length := by simp
  refine W.cut (fun ρ w' => ∃ d1 d2, ρ = [(0, .slice At l.length ct), (1, .slice As xs.length cs), (2, .int .i64 b), (8, .slice (some ⟨d1, 0, none⟩) l.length l.length), (9, .slice (some ⟨d2, 0, none⟩) l.length l.length)] ∧ OI 3 (Value.int .i64) w w' (.slice (some ⟨d1, 0, none⟩) l.length l.length) (List.replicate l.length 0) ∧ OI 3 (Value.int .i64) w w' (.slice (some ⟨d2, 0, none⟩) l.length l.length) (List.replicate l.length 0) ∧ d1 ≠ d2) ?_ ?_
  · refine W.ordX 8 rfl (by kernel_rfl) rfl (fun _ _ _ h => h) (fun w1 k1 => ?_)
    have hb1 : Below w.heap.size w w1 := k1.below (Nat.le_refl _) (fun _ _ e => e)
    refine OrdX.pure 0 (by kernel_rfl) rfl rfl rfl rfl (fun _ => EV.pu rfl) (OrdX.pure 1 (by kernel_rfl) rfl rfl rfl rfl (fun _ => EV.len rfl rfl rfl) (OrdX.pure 3 (by kernel_rfl) rfl rfl rfl rfl (fun _ => EV.pu rfl) (OrdX.pure 4 (by kernel_rfl) rfl rfl rfl rfl (fun _ => EV.len rfl rfl rfl) ?_)))
    refine OrdX.both 2 5 (by kernel_rfl) rfl rfl ?_ ?_
    · refine Ops.mkO (w0 := w) (Value.int .i64) 0 rfl rfl rfl rfl rfl rfl rfl rfl rfl (by omega) rfl hb1 (fun w2 d1 hO2 k2 _ => Ops.nil (W.endl ?_))
      refine OrdX.pure 6 (by kernel_rfl) rfl rfl rfl rfl (fun _ => EV.pu rfl) ?_
      refine OrdX.one 5 (by kernel_rfl) rfl (Ops.mkO (w0 := w) (Value.int .i64) 0 rfl rfl rfl rfl rfl rfl rfl rfl rfl (by omega) rfl hO2.bel (fun w3 d2 hO3 k3 hd => Ops.nil (W.endl ?_)))
      have hl := (hO2.own.lt d1 rfl).2
      refine OrdX.pure 7 (by kernel_rfl) rfl rfl rfl rfl (fun _ => EV.pu rfl) (OrdX.done (by kernel_rfl) ?_)
      exact W.endl ⟨_, ⟨d1, d2, rfl, hO2.below (Kp.below k3 (Nat.le_refl _) (fun _ _ e => e)), hO3, by omega⟩, (by repeat (first | exact trivial | refine And.intro rfl ?_))⟩
    · refine Ops.mkO (w0 := w) (Value.int .i64) 0 rfl rfl rfl rfl rfl rfl rfl rfl rfl (by omega) rfl hb1 (fun w2 d2 hO2 k2 _ => Ops.nil (W.endl ?_))
      refine OrdX.one 2 (by kernel_rfl) rfl (Ops.mkO (w0 := w) (Value.int .i64) 0 rfl rfl rfl rfl rfl rfl rfl rfl rfl (by omega) rfl hO2.bel (fun w3 d1 hO3 k3 hd => Ops.nil (W.endl ?_)))
      have hl := (hO2.own.lt d2 rfl).2
      refine OrdX.pure 6 (by kernel_rfl) rfl rfl rfl rfl (fun _ => EV.pu rfl) (OrdX.pure 7 (by kernel_rfl) rfl rfl rfl rfl (fun _ => EV.pu rfl) (OrdX.done (by kernel_rfl) ?_))
      exact W.endl ⟨_, ⟨d1, d2, rfl, hO3, hO2.below (Kp.below k3 (Nat.le_refl _) (fun _ _ e => e)), by omega⟩, (by repeat (first | exact trivial | refine And.intro rfl ?_))⟩
  generalize List.replicate l.length (0 : Int) = os2 at *
  rintro ρ w1 ⟨d1, d2, rfl, hY, hN, hd⟩
  (repeat (first | with_reducible refine W.seq ?_ | with_reducible refine Ops.nil ?_ | with_reducible refine W.region ?_ | refine z_p (kk := ?_) | refine z_a (kk := ?_) | refine z_y (kk := ?_) | refine z_n (kk := ?_) | refine z_u (kk := ?_) | with_reducible refine W.skip ?_ | with_reducible refine W.endb ?_ | with_reducible refine W.block ?_ | refine W.exit rfl ?_ | refine z_l (kk := ?_) | refine z_f (kk := ?_) | refine z_M (kk := ?_) | refine z_m (kk := ?_) | refine z_e (kk := ?_) | refine z_E (kk := ?_) | refine z_d (kk := ?_) | refine z_I (kk := fun _ => ?_) | refine z_J (kk := fun _ => ?_) | refine z_K (kk := fun _ => ?_) | refine z_L (kk := fun _ => ?_) | refine z_T (kk := ?_) | refine z_F (kk := ?_) | refine z_k (kk := fun _ _ _ _ _ => ?_) | refine z_w (kk := fun _ _ => ?_) | refine z_s (kk := fun _ _ _ _ => ?_) | refine z_g (kk := ?_) | refine z_h (kk := ?_)))
  refine W.loop (fun m ρ w3 => ∃ (i : Nat) (ys zs : List Int), m = l.length - i ∧ i ≤ l.length ∧ ρ = [(0, .slice At l.length ct), (1, .slice As xs.length cs), (2, .int .i64 b), (8, .slice (some ⟨d1, 0, none⟩) l.length l.length), (9, .slice (some ⟨d2, 0, none⟩) l.length l.length), (10, .int .i64 i)] ∧ OI 3 (Value.int .i64) w w3 (.slice (some ⟨d1, 0, none⟩) l.length l.length) ys ∧ OI 3 (Value.int .i64) w w3 (.slice (some ⟨d2, 0, none⟩) l.length l.length) zs ∧ ys.length = l.length ∧ zs.length = l.length ∧ ∀ j : Nat, j < i → ys.getD j 0 = 1 ∧ zs.getD j 0 = 1)
    ⟨_, _, ⟨0, _, _, rfl, Nat.zero_le _, rfl, hY, hN, hlr, hlr, fun j h => by omega⟩, (by repeat (first | exact trivial | refine And.intro rfl ?_))⟩ ?_
  clear hY hN hlr
  rintro m ρ w3 ⟨i, ys, zs, rfl, hi, rfl, hY, hN, hyl, hzl, hv⟩
  have hb3 := hY.bel
  have hY' : ∀ {w5 w6 : World} {us : List Int}, OI 3 (Value.int .i64) w w5 (.slice (some ⟨d1, 0, none⟩) l.length l.length) us → Kp (fun k => (Value.slice (some ⟨d2, 0, none⟩) l.length l.length).ownBlock = some k) w5 w6 → OI 3 (Value.int .i64) w w6 (.slice (some ⟨d1, 0, none⟩) l.length l.length) us := fun h k => h.kp k fun i hi => ⟨hN.ge i hi, fun e => by simp [Value.ownBlock] at hi e; omega⟩
  have hN' : ∀ {w5 w6 : World} {us : List Int}, OI 3 (Value.int .i64) w w5 (.slice (some ⟨d2, 0, none⟩) l.length l.length) us → Kp (fun k => (Value.slice (some ⟨d1, 0, none⟩) l.length l.length).ownBlock = some k) w5 w6 → OI 3 (Value.int .i64) w w6 (.slice (some ⟨d2, 0, none⟩) l.length l.length) us := fun h k => h.kp k fun i hi => ⟨hY.ge i hi, fun e => by simp [Value.ownBlock] at hi e; omega⟩
  (repeat (first | with_reducible refine W.seq ?_ | with_reducible refine Ops.nil ?_ | with_reducible refine W.region ?_ | refine z_p (kk := ?_) | refine z_a (kk := ?_) | refine z_y (kk := ?_) | refine z_n (kk := ?_) | refine z_u (kk := ?_) | with_reducible refine W.skip ?_ | with_reducible refine W.endb ?_ | with_reducible refine W.block ?_ | refine W.exit rfl ?_ | refine z_l (kk := ?_) | refine z_f (kk := ?_) | refine z_M (kk := ?_) | refine z_m (kk := ?_) | refine z_e (kk := ?_) | refine z_E (kk := ?_) | refine z_d (kk := ?_) | refine z_I (kk := fun _ => ?_) | refine z_J (kk := fun _ => ?_) | refine z_K (kk := fun _ => ?_) | refine z_L (kk := fun _ => ?_) | refine z_T (kk := ?_) | refine z_F (kk := ?_) | refine z_k (kk := fun _ _ _ _ _ => ?_) | refine z_w (kk := fun _ _ => ?_) | refine z_s (kk := fun _ _ _ _ => ?_) | refine z_g (kk := ?_) | refine z_h (kk := ?_)))
  (first | refine W.condD rfl (fun hc => ?_) (fun hc => ?_) | refine W.condE rfl (fun hc => ?_) (fun hc => ?_) | refine W.condN rfl (fun hc => ?_) (fun hc => ?_) | refine W.cond rfl (fun hc => ?_) (fun hc => ?_))
  · have hil : i < l.length := by omega
    (repeat (first | with_reducible refine W.seq ?_ | with_reducible refine Ops.nil ?_ | with_reducible refine W.region ?_ | refine z_p (kk := ?_) | refine z_a (kk := ?_) | refine z_y (kk := ?_) | refine z_n (kk := ?_) | refine z_u (kk := ?_) | with_reducible refine W.skip ?_ | with_reducible refine W.endb ?_ | with_reducible refine W.block ?_ | refine W.exit rfl ?_ | refine z_l (kk := ?_) | refine z_f (kk := ?_) | refine z_M (kk := ?_) | refine z_m (kk := ?_) | refine z_e (kk := ?_) | refine z_E (kk := ?_) | refine z_d (kk := ?_) | refine z_I (kk := fun _ => ?_) | refine z_J (kk := fun _ => ?_) | refine z_K (kk := fun _ => ?_) | refine z_L (kk := fun _ => ?_) | refine z_T (kk := ?_) | refine z_F (kk := ?_) | refine z_k (kk := fun _ _ _ _ _ => ?_) | refine z_w (kk := fun _ _ => ?_) | refine z_s (kk := fun _ _ _ _ => ?_) | refine z_g (kk := ?_) | refine z_h (kk := ?_)))
    refine Ops.wrO rfl rfl rfl rfl rfl rfl rfl rfl rfl rfl rfl rfl (by simp) rfl hY (by omega) (fun w4 _ hY4 k4 _ => ?_)
    have hN4 := hN' hN k4
    (repeat (first | with_reducible refine W.seq ?_ | with_reducible refine Ops.nil ?_ | with_reducible refine W.region ?_ | refine z_p (kk := ?_) | refine z_a (kk := ?_) | refine z_y (kk := ?_) | refine z_n (kk := ?_) | refine z_u (kk := ?_) | with_reducible refine W.skip ?_ | with_reducible refine W.endb ?_ | with_reducible refine W.block ?_ | refine W.exit rfl ?_ | refine z_l (kk := ?_) | refine z_f (kk := ?_) | refine z_M (kk := ?_) | refine z_m (kk := ?_) | refine z_e (kk := ?_) | refine z_E (kk := ?_) | refine z_d (kk := ?_) | refine z_I (kk := fun _ => ?_) | refine z_J (kk := fun _ => ?_) | refine z_K (kk := fun _ => ?_) | refine z_L (kk := fun _ => ?_) | refine z_T (kk := ?_) | refine z_F (kk := ?_) | refine z_k (kk := fun _ _ _ _ _ => ?_) | refine z_w (kk := fun _ _ => ?_) | refine z_s (kk := fun _ _ _ _ => ?_) | refine z_g (kk := ?_) | refine z_h (kk := ?_)))
    refine Ops.wrO rfl rfl rfl rfl rfl rfl rfl rfl rfl rfl rfl rfl (by simp) rfl hN4 (by omega) (fun w5 _ hN5 k5 _ => ?_)
    have hY5 := hY' hY4 k5
    (repeat (first | with_reducible refine W.seq ?_ | with_reducible refine Ops.nil ?_ | with_reducible refine W.region ?_ | refine z_p (kk := ?_) | refine z_a (kk := ?_) | refine z_y (kk := ?_) | refine z_n (kk := ?_) | refine z_u (kk := ?_) | with_reducible refine W.skip ?_ | with_reducible refine W.endb ?_ | with_reducible refine W.block ?_ | refine W.exit rfl ?_ | refine z_l (kk := ?_) | refine z_f (kk := ?_) | refine z_M (kk := ?_) | refine z_m (kk := ?_) | refine z_e (kk := ?_) | refine z_E (kk := ?_) | refine z_d (kk := ?_) | refine z_I (kk := fun _ => ?_) | refine z_J (kk := fun _ => ?_) | refine z_K (kk := fun _ => ?_) | refine z_L (kk := fun _ => ?_) | refine z_T (kk := ?_) | refine z_F (kk := ?_) | refine z_k (kk := fun _ _ _ _ _ => ?_) | refine z_w (kk := fun _ _ => ?_) | refine z_s (kk := fun _ _ _ _ => ?_) | refine z_g (kk := ?_) | refine z_h (kk := ?_)))
    refine W.endl ⟨_, _, ⟨⟨i + 1, _, _, rfl, by omega, rfl, hY5, hN5, by simp [hyl], by simp [hzl], fun j hj => ?_⟩, by omega⟩, (by repeat (first | exact trivial | refine And.intro rfl ?_))⟩
    by_cases e : i = j
    · subst e; exact ⟨Go.Proofs.Ytdiljpnfochndaa.HP.getD_set_eq (by omega), Go.Proofs.Ytdiljpnfochndaa.HP.getD_set_eq (by omega)⟩
    · rw [Go.Proofs.Ytdiljpnfochndaa.HP.getD_set_ne e, Go.Proofs.Ytdiljpnfochndaa.HP.getD_set_ne e]; exact hv j (by omega)
  · have hil : i = l.length := by omega
    subst hil
    (repeat (first | with_reducible refine W.seq ?_ | with_reducible refine Ops.nil ?_ | with_reducible refine W.region ?_ | refine z_p (kk := ?_) | refine z_a (kk := ?_) | refine z_y (kk := ?_) | refine z_n (kk := ?_) | refine z_u (kk := ?_) | with_reducible refine W.skip ?_ | with_reducible refine W.endb ?_ | with_reducible refine W.block ?_ | refine W.exit rfl ?_ | refine z_l (kk := ?_) | refine z_f (kk := ?_) | refine z_M (kk := ?_) | refine z_m (kk := ?_) | refine z_e (kk := ?_) | refine z_E (kk := ?_) | refine z_d (kk := ?_) | refine z_I (kk := fun _ => ?_) | refine z_J (kk := fun _ => ?_) | refine z_K (kk := fun _ => ?_) | refine z_L (kk := fun _ => ?_) | refine z_T (kk := ?_) | refine z_F (kk := ?_) | refine z_k (kk := fun _ _ _ _ _ => ?_) | refine z_w (kk := fun _ _ => ?_) | refine z_s (kk := fun _ _ _ _ => ?_) | refine z_g (kk := ?_) | refine z_h (kk := ?_)))
    refine W.loop (fun m ρ w3 => ∃ (i : Nat) (ys zs : List Int), m = xs.length - i ∧ i ≤ xs.length ∧ ρ = [(0, .slice At l.length ct), (1, .slice As xs.length cs), (2, .int .i64 b), (8, .slice (some ⟨d1, 0, none⟩) l.length l.length), (9, .slice (some ⟨d2, 0, none⟩) l.length l.length), (11, .int .i64 i)] ∧ OI 3 (Value.int .i64) w w3 (.slice (some ⟨d1, 0, none⟩) l.length l.length) ys ∧ OI 3 (Value.int .i64) w w3 (.slice (some ⟨d2, 0, none⟩) l.length l.length) zs ∧ ys.length = l.length ∧ zs.length = l.length ∧ ∀ j : Nat, j < l.length → ys.getD j 0 = yesF l (xs.take i) b j ∧ zs.getD j 0 = noF l (xs.take i) b j)
      ⟨_, _, ⟨0, _, _, rfl, Nat.zero_le _, rfl, hY, hN, hyl, hzl, fun j h => by rw [(hv j h).1, (hv j h).2]; simp [yesF, noF]⟩, (by repeat (first | exact trivial | refine And.intro rfl ?_))⟩ ?_
    clear hv hyl hzl hb3 hi
    rintro m ρ w4 ⟨i, ys, zs, rfl, hi, rfl, hY4, hN4, hyl, hzl, hv⟩
    have hb4 := hY4.bel
    (repeat (first | with_reducible refine W.seq ?_ | with_reducible refine Ops.nil ?_ | with_reducible refine W.region ?_ | refine z_p (kk := ?_) | refine z_a (kk := ?_) | refine z_y (kk := ?_) | refine z_n (kk := ?_) | refine z_u (kk := ?_) | with_reducible refine W.skip ?_ | with_reducible refine W.endb ?_ | with_reducible refine W.block ?_ | refine W.exit rfl ?_ | refine z_l (kk := ?_) | refine z_f (kk := ?_) | refine z_M (kk := ?_) | refine z_m (kk := ?_) | refine z_e (kk := ?_) | refine z_E (kk := ?_) | refine z_d (kk := ?_) | refine z_I (kk := fun _ => ?_) | refine z_J (kk := fun _ => ?_) | refine z_K (kk := fun _ => ?_) | refine z_L (kk := fun _ => ?_) | refine z_T (kk := ?_) | refine z_F (kk := ?_) | refine z_k (kk := fun _ _ _ _ _ => ?_) | refine z_w (kk := fun _ _ => ?_) | refine z_s (kk := fun _ _ _ _ => ?_) | refine z_g (kk := ?_) | refine z_h (kk := ?_)))
    (first | refine W.condD rfl (fun hc => ?_) (fun hc => ?_) | refine W.condE rfl (fun hc => ?_) (fun hc => ?_) | refine W.condN rfl (fun hc => ?_) (fun hc => ?_) | refine W.cond rfl (fun hc => ?_) (fun hc => ?_))
    · have hil : i < xs.length := by omega
      obtain ⟨q1, q2, q3, q4⟩ := hls i hil
      have hcs := contains_snoc hil
      have hnew : ∀ (y z : Int), y = (if wor l (xs.getD i 0) < b then 1000000 else 0) → z = (if wor l (xs.getD i 0) < b then 0 else 1000000) → ∀ j : Nat, j < l.length → (ys.set (xs.getD i 0).toNat y).getD j 0 = yesF l (xs.take (i + 1)) b j ∧ (zs.set (xs.getD i 0).toNat z).getD j 0 = noF l (xs.take (i + 1)) b j := fun y z hy hz j hj => by
        unfold yesF noF
        rw [hcs]
        by_cases e : (xs.getD i 0).toNat = j
        · have e2 : (j : Int) = xs.getD i 0 := by omega
          rw [e, Go.Proofs.Ytdiljpnfochndaa.HP.getD_set_eq (by omega), Go.Proofs.Ytdiljpnfochndaa.HP.getD_set_eq (by omega), e2]
          simp only [beq_self_eq_true, Bool.or_true, if_true]
          exact ⟨hy, hz⟩
        · have e2 : ((j : Int) == xs.getD i 0) = false := by simp only [beq_eq_false_iff_ne]; omega
          rw [Go.Proofs.Ytdiljpnfochndaa.HP.getD_set_ne e, Go.Proofs.Ytdiljpnfochndaa.HP.getD_set_ne e, (hv j hj).1, (hv j hj).2, e2, Bool.or_false]
          exact ⟨rfl, rfl⟩
      (repeat (first | with_reducible refine W.seq ?_ | with_reducible refine Ops.nil ?_ | with_reducible refine W.region ?_ | refine z_p (kk := ?_) | refine z_a (kk := ?_) | refine z_y (kk := ?_) | refine z_n (kk := ?_) | refine z_u (kk := ?_) | with_reducible refine W.skip ?_ | with_reducible refine W.endb ?_ | with_reducible refine W.block ?_ | refine W.exit rfl ?_ | refine z_l (kk := ?_) | refine z_f (kk := ?_) | refine z_M (kk := ?_) | refine z_m (kk := ?_) | refine z_e (kk := ?_) | refine z_E (kk := ?_) | refine z_d (kk := ?_) | refine z_I (kk := fun _ => ?_) | refine z_J (kk := fun _ => ?_) | refine z_K (kk := fun _ => ?_) | refine z_L (kk := fun _ => ?_) | refine z_T (kk := ?_) | refine z_F (kk := ?_) | refine z_k (kk := fun _ _ _ _ _ => ?_) | refine z_w (kk := fun _ _ => ?_) | refine z_s (kk := fun _ _ _ _ => ?_) | refine z_g (kk := ?_) | refine z_h (kk := ?_)))
      refine Ops.wrOi (enc := Value.int .i64) rfl rfl rfl rfl rfl rfl rfl rfl rfl rfl rfl rfl (by simp) rfl hY4 (by omega) (by omega) (fun w5 _ hY5 k5 _ => ?_)
      have hN5 := hN' hN4 k5
      (repeat (first | with_reducible refine W.seq ?_ | with_reducible refine Ops.nil ?_ | with_reducible refine W.region ?_ | refine z_p (kk := ?_) | refine z_a (kk := ?_) | refine z_y (kk := ?_) | refine z_n (kk := ?_) | refine z_u (kk := ?_) | with_reducible refine W.skip ?_ | with_reducible refine W.endb ?_ | with_reducible refine W.block ?_ | refine W.exit rfl ?_ | refine z_l (kk := ?_) | refine z_f (kk := ?_) | refine z_M (kk := ?_) | refine z_m (kk := ?_) | refine z_e (kk := ?_) | refine z_E (kk := ?_) | refine z_d (kk := ?_) | refine z_I (kk := fun _ => ?_) | refine z_J (kk := fun _ => ?_) | refine z_K (kk := fun _ => ?_) | refine z_L (kk := fun _ => ?_) | refine z_T (kk := ?_) | refine z_F (kk := ?_) | refine z_k (kk := fun _ _ _ _ _ => ?_) | refine z_w (kk := fun _ _ => ?_) | refine z_s (kk := fun _ _ _ _ => ?_) | refine z_g (kk := ?_) | refine z_h (kk := ?_)))
      refine Ops.wrOi (enc := Value.int .i64) rfl rfl rfl rfl rfl rfl rfl rfl rfl rfl rfl rfl (by simp) rfl hN5 (by omega) (by omega) (fun w6 _ hN6 k6 _ => ?_)
      have hY6 := hY' hY5 k6
      have hb6 := hY6.bel
      (repeat (first | with_reducible refine W.seq ?_ | with_reducible refine Ops.nil ?_ | with_reducible refine W.region ?_ | refine z_p (kk := ?_) | refine z_a (kk := ?_) | refine z_y (kk := ?_) | refine z_n (kk := ?_) | refine z_u (kk := ?_) | with_reducible refine W.skip ?_ | with_reducible refine W.endb ?_ | with_reducible refine W.block ?_ | refine W.exit rfl ?_ | refine z_l (kk := ?_) | refine z_f (kk := ?_) | refine z_M (kk := ?_) | refine z_m (kk := ?_) | refine z_e (kk := ?_) | refine z_E (kk := ?_) | refine z_d (kk := ?_) | refine z_I (kk := fun _ => ?_) | refine z_J (kk := fun _ => ?_) | refine z_K (kk := fun _ => ?_) | refine z_L (kk := fun _ => ?_) | refine z_T (kk := ?_) | refine z_F (kk := ?_) | refine z_k (kk := fun _ _ _ _ _ => ?_) | refine z_w (kk := fun _ _ => ?_) | refine z_s (kk := fun _ _ _ _ => ?_) | refine z_g (kk := ?_) | refine z_h (kk := ?_)))
      (first | refine W.condD rfl (fun hc => ?_) (fun hc => ?_) | refine W.condE rfl (fun hc => ?_) (fun hc => ?_) | refine W.condN rfl (fun hc => ?_) (fun hc => ?_) | refine W.cond rfl (fun hc => ?_) (fun hc => ?_))
      · (repeat (first | with_reducible refine W.seq ?_ | with_reducible refine Ops.nil ?_ | with_reducible refine W.region ?_ | refine z_p (kk := ?_) | refine z_a (kk := ?_) | refine z_y (kk := ?_) | refine z_n (kk := ?_) | refine z_u (kk := ?_) | with_reducible refine W.skip ?_ | with_reducible refine W.endb ?_ | with_reducible refine W.block ?_ | refine W.exit rfl ?_ | refine z_l (kk := ?_) | refine z_f (kk := ?_) | refine z_M (kk := ?_) | refine z_m (kk := ?_) | refine z_e (kk := ?_) | refine z_E (kk := ?_) | refine z_d (kk := ?_) | refine z_I (kk := fun _ => ?_) | refine z_J (kk := fun _ => ?_) | refine z_K (kk := fun _ => ?_) | refine z_L (kk := fun _ => ?_) | refine z_T (kk := ?_) | refine z_F (kk := ?_) | refine z_k (kk := fun _ _ _ _ _ => ?_) | refine z_w (kk := fun _ _ => ?_) | refine z_s (kk := fun _ _ _ _ => ?_) | refine z_g (kk := ?_) | refine z_h (kk := ?_)))
        refine Ops.wrOi (enc := Value.int .i64) rfl rfl rfl rfl rfl rfl rfl rfl rfl rfl rfl rfl (by simp) rfl hY6 (by omega) (by rw [List.length_set]; omega) (fun w7 _ hY7 k7 _ => ?_)
        have hN7 := hN' hN6 k7
        (repeat (first | with_reducible refine W.seq ?_ | with_reducible refine Ops.nil ?_ | with_reducible refine W.region ?_ | refine z_p (kk := ?_) | refine z_a (kk := ?_) | refine z_y (kk := ?_) | refine z_n (kk := ?_) | refine z_u (kk := ?_) | with_reducible refine W.skip ?_ | with_reducible refine W.endb ?_ | with_reducible refine W.block ?_ | refine W.exit rfl ?_ | refine z_l (kk := ?_) | refine z_f (kk := ?_) | refine z_M (kk := ?_) | refine z_m (kk := ?_) | refine z_e (kk := ?_) | refine z_E (kk := ?_) | refine z_d (kk := ?_) | refine z_I (kk := fun _ => ?_) | refine z_J (kk := fun _ => ?_) | refine z_K (kk := fun _ => ?_) | refine z_L (kk := fun _ => ?_) | refine z_T (kk := ?_) | refine z_F (kk := ?_) | refine z_k (kk := fun _ _ _ _ _ => ?_) | refine z_w (kk := fun _ _ => ?_) | refine z_s (kk := fun _ _ _ _ => ?_) | refine z_g (kk := ?_) | refine z_h (kk := ?_)))
        refine Ops.wrOi (enc := Value.int .i64) rfl rfl rfl rfl rfl rfl rfl rfl rfl rfl rfl rfl (by simp) rfl hN7 (by omega) (by rw [List.length_set]; omega) (fun w8 _ hN8 k8 _ => ?_)
        have hY8 := hY' hY7 k8
        rw [List.set_set] at hY8 hN8
        (repeat (first | with_reducible refine W.seq ?_ | with_reducible refine Ops.nil ?_ | with_reducible refine W.region ?_ | refine z_p (kk := ?_) | refine z_a (kk := ?_) | refine z_y (kk := ?_) | refine z_n (kk := ?_) | refine z_u (kk := ?_) | with_reducible refine W.skip ?_ | with_reducible refine W.endb ?_ | with_reducible refine W.block ?_ | refine W.exit rfl ?_ | refine z_l (kk := ?_) | refine z_f (kk := ?_) | refine z_M (kk := ?_) | refine z_m (kk := ?_) | refine z_e (kk := ?_) | refine z_E (kk := ?_) | refine z_d (kk := ?_) | refine z_I (kk := fun _ => ?_) | refine z_J (kk := fun _ => ?_) | refine z_K (kk := fun _ => ?_) | refine z_L (kk := fun _ => ?_) | refine z_T (kk := ?_) | refine z_F (kk := ?_) | refine z_k (kk := fun _ _ _ _ _ => ?_) | refine z_w (kk := fun _ _ => ?_) | refine z_s (kk := fun _ _ _ _ => ?_) | refine z_g (kk := ?_) | refine z_h (kk := ?_)))
        exact W.endl ⟨_, _, ⟨⟨i + 1, _, _, rfl, by omega, rfl, hY8, hN8, by simp [hyl], by simp [hzl], hnew _ _ (by rw [if_pos (by omega)]) (by rw [if_pos (by omega)])⟩, by omega⟩, (by repeat (first | exact trivial | refine And.intro rfl ?_))⟩
      · (repeat (first | with_reducible refine W.seq ?_ | with_reducible refine Ops.nil ?_ | with_reducible refine W.region ?_ | refine z_p (kk := ?_) | refine z_a (kk := ?_) | refine z_y (kk := ?_) | refine z_n (kk := ?_) | refine z_u (kk := ?_) | with_reducible refine W.skip ?_ | with_reducible refine W.endb ?_ | with_reducible refine W.block ?_ | refine W.exit rfl ?_ | refine z_l (kk := ?_) | refine z_f (kk := ?_) | refine z_M (kk := ?_) | refine z_m (kk := ?_) | refine z_e (kk := ?_) | refine z_E (kk := ?_) | refine z_d (kk := ?_) | refine z_I (kk := fun _ => ?_) | refine z_J (kk := fun _ => ?_) | refine z_K (kk := fun _ => ?_) | refine z_L (kk := fun _ => ?_) | refine z_T (kk := ?_) | refine z_F (kk := ?_) | refine z_k (kk := fun _ _ _ _ _ => ?_) | refine z_w (kk := fun _ _ => ?_) | refine z_s (kk := fun _ _ _ _ => ?_) | refine z_g (kk := ?_) | refine z_h (kk := ?_)))
        exact W.endl ⟨_, _, ⟨⟨i + 1, _, _, rfl, by omega, rfl, hY6, hN6, by simp [hyl], by simp [hzl], hnew _ _ (by rw [if_neg (by omega)]) (by rw [if_neg (by omega)])⟩, by omega⟩, (by repeat (first | exact trivial | refine And.intro rfl ?_))⟩
    · have hil : i = xs.length := by omega
      subst hil
      rw [List.take_length] at hv
      (repeat (first | with_reducible refine W.seq ?_ | with_reducible refine Ops.nil ?_ | with_reducible refine W.region ?_ | refine z_p (kk := ?_) | refine z_a (kk := ?_) | refine z_y (kk := ?_) | refine z_n (kk := ?_) | refine z_u (kk := ?_) | with_reducible refine W.skip ?_ | with_reducible refine W.endb ?_ | with_reducible refine W.block ?_ | refine W.exit rfl ?_ | refine z_l (kk := ?_) | refine z_f (kk := ?_) | refine z_M (kk := ?_) | refine z_m (kk := ?_) | refine z_e (kk := ?_) | refine z_E (kk := ?_) | refine z_d (kk := ?_) | refine z_I (kk := fun _ => ?_) | refine z_J (kk := fun _ => ?_) | refine z_K (kk := fun _ => ?_) | refine z_L (kk := fun _ => ?_) | refine z_T (kk := ?_) | refine z_F (kk := ?_) | refine z_k (kk := fun _ _ _ _ _ => ?_) | refine z_w (kk := fun _ _ => ?_) | refine z_s (kk := fun _ _ _ _ => ?_) | refine z_g (kk := ?_) | refine z_h (kk := ?_)))
      refine Ops.call rfl rfl rfl rfl rfl (needs_c (hTr.below hb4) hT hY4.sl hyl (fun j hj => by rw [(hv j hj).1]; unfold yesF; split; split <;> omega; omega)) (fun r w5 hR => ?_)
      obtain ⟨hb5, rs, hrs, rfl⟩ := hR
      have hb05 := Below.via hb4 hb5
      (repeat (first | with_reducible refine W.seq ?_ | with_reducible refine Ops.nil ?_ | with_reducible refine W.region ?_ | refine z_p (kk := ?_) | refine z_a (kk := ?_) | refine z_y (kk := ?_) | refine z_n (kk := ?_) | refine z_u (kk := ?_) | with_reducible refine W.skip ?_ | with_reducible refine W.endb ?_ | with_reducible refine W.block ?_ | refine W.exit rfl ?_ | refine z_l (kk := ?_) | refine z_f (kk := ?_) | refine z_M (kk := ?_) | refine z_m (kk := ?_) | refine z_e (kk := ?_) | refine z_E (kk := ?_) | refine z_d (kk := ?_) | refine z_I (kk := fun _ => ?_) | refine z_J (kk := fun _ => ?_) | refine z_K (kk := fun _ => ?_) | refine z_L (kk := fun _ => ?_) | refine z_T (kk := ?_) | refine z_F (kk := ?_) | refine z_k (kk := fun _ _ _ _ _ => ?_) | refine z_w (kk := fun _ _ => ?_) | refine z_s (kk := fun _ _ _ _ => ?_) | refine z_g (kk := ?_) | refine z_h (kk := ?_)))
      refine Ops.call rfl rfl rfl rfl rfl (needs_c (hTr.below hb05) hT (Sl.below hN4.sl hb5) hzl (fun j hj => by rw [(hv j hj).2]; unfold noF; split; split <;> omega; omega)) (fun r w6 hR => ?_)
      obtain ⟨hb6, qs, hqs, rfl⟩ := hR
      have hb06 := Below.via hb05 hb6
      have hfin : ∃ rs qs : List Int, RNeedP l dep true (yesF l xs b) rs ∧ RNeedP l dep false (noF l xs b) qs ∧ Value.tuple #[.int .i64 (fixN (rs.getD 0 0)), .int .i64 (fixN (qs.getD 0 0))] = .tuple #[.int .i64 (fixN (rs.getD 0 0)), .int .i64 (fixN (qs.getD 0 0))] := ⟨rs, qs, rneed_congr hrs fun j hj _ => (hv j hj).1, rneed_congr hqs fun j hj _ => (hv j hj).2, rfl⟩
      generalize hy : rs.getD 0 0 = y at *
      generalize hz : qs.getD 0 0 = z at *
      have hfin2 : ∀ u u', u = fixN y → u' = fixN z → ∃ rs qs : List Int, RNeedP l dep true (yesF l xs b) rs ∧ RNeedP l dep false (noF l xs b) qs ∧ Value.tuple #[.int .i64 u, .int .i64 u'] = .tuple #[.int .i64 (fixN (rs.getD 0 0)), .int .i64 (fixN (qs.getD 0 0))] := fun u u' e e' => ⟨rs, qs, rneed_congr hrs fun j hj _ => (hv j hj).1, rneed_congr hqs fun j hj _ => (hv j hj).2, by rw [e, e', hy, hz]⟩
      (repeat (first | with_reducible refine W.seq ?_ | with_reducible refine Ops.nil ?_ | with_reducible refine W.region ?_ | refine z_p (kk := ?_) | refine z_a (kk := ?_) | refine z_y (kk := ?_) | refine z_n (kk := ?_) | refine z_u (kk := ?_) | with_reducible refine W.skip ?_ | with_reducible refine W.endb ?_ | with_reducible refine W.block ?_ | refine W.exit rfl ?_ | refine z_l (kk := ?_) | refine z_f (kk := ?_) | refine z_M (kk := ?_) | refine z_m (kk := ?_) | refine z_e (kk := ?_) | refine z_E (kk := ?_) | refine z_d (kk := ?_) | refine z_I (kk := fun _ => ?_) | refine z_J (kk := fun _ => ?_) | refine z_K (kk := fun _ => ?_) | refine z_L (kk := fun _ => ?_) | refine z_T (kk := ?_) | refine z_F (kk := ?_) | refine z_k (kk := fun _ _ _ _ _ => ?_) | refine z_w (kk := fun _ _ => ?_) | refine z_s (kk := fun _ _ _ _ => ?_) | refine z_g (kk := ?_) | refine z_h (kk := ?_)))
      (first | refine W.condD rfl (fun hc => ?_) (fun hc => ?_) | refine W.condE rfl (fun hc => ?_) (fun hc => ?_) | refine W.condN rfl (fun hc => ?_) (fun hc => ?_) | refine W.cond rfl (fun hc => ?_) (fun hc => ?_))
      · (repeat (first | with_reducible refine W.seq ?_ | with_reducible refine Ops.nil ?_ | with_reducible refine W.region ?_ | refine z_p (kk := ?_) | refine z_a (kk := ?_) | refine z_y (kk := ?_) | refine z_n (kk := ?_) | refine z_u (kk := ?_) | with_reducible refine W.skip ?_ | with_reducible refine W.endb ?_ | with_reducible refine W.block ?_ | refine W.exit rfl ?_ | refine z_l (kk := ?_) | refine z_f (kk := ?_) | refine z_M (kk := ?_) | refine z_m (kk := ?_) | refine z_e (kk := ?_) | refine z_E (kk := ?_) | refine z_d (kk := ?_) | refine z_I (kk := fun _ => ?_) | refine z_J (kk := fun _ => ?_) | refine z_K (kk := fun _ => ?_) | refine z_L (kk := fun _ => ?_) | refine z_T (kk := ?_) | refine z_F (kk := ?_) | refine z_k (kk := fun _ _ _ _ _ => ?_) | refine z_w (kk := fun _ _ => ?_) | refine z_s (kk := fun _ _ _ _ => ?_) | refine z_g (kk := ?_) | refine z_h (kk := ?_)))
        (first | refine W.condD rfl (fun hc => ?_) (fun hc => ?_) | refine W.condE rfl (fun hc => ?_) (fun hc => ?_) | refine W.condN rfl (fun hc => ?_) (fun hc => ?_) | refine W.cond rfl (fun hc => ?_) (fun hc => ?_))
        · (repeat (first | with_reducible refine W.seq ?_ | with_reducible refine Ops.nil ?_ | with_reducible refine W.region ?_ | refine z_p (kk := ?_) | refine z_a (kk := ?_) | refine z_y (kk := ?_) | refine z_n (kk := ?_) | refine z_u (kk := ?_) | with_reducible refine W.skip ?_ | with_reducible refine W.endb ?_ | with_reducible refine W.block ?_ | refine W.exit rfl ?_ | refine z_l (kk := ?_) | refine z_f (kk := ?_) | refine z_M (kk := ?_) | refine z_m (kk := ?_) | refine z_e (kk := ?_) | refine z_E (kk := ?_) | refine z_d (kk := ?_) | refine z_I (kk := fun _ => ?_) | refine z_J (kk := fun _ => ?_) | refine z_K (kk := fun _ => ?_) | refine z_L (kk := fun _ => ?_) | refine z_T (kk := ?_) | refine z_F (kk := ?_) | refine z_k (kk := fun _ _ _ _ _ => ?_) | refine z_w (kk := fun _ _ => ?_) | refine z_s (kk := fun _ _ _ _ => ?_) | refine z_g (kk := ?_) | refine z_h (kk := ?_)))
          exact W.fret rfl ⟨hb06, hfin2 _ _ (by unfold fixN; rw [if_pos (by omega)]) (by unfold fixN; rw [if_pos (by omega)])⟩
        · (repeat (first | with_reducible refine W.seq ?_ | with_reducible refine Ops.nil ?_ | with_reducible refine W.region ?_ | refine z_p (kk := ?_) | refine z_a (kk := ?_) | refine z_y (kk := ?_) | refine z_n (kk := ?_) | refine z_u (kk := ?_) | with_reducible refine W.skip ?_ | with_reducible refine W.endb ?_ | with_reducible refine W.block ?_ | refine W.exit rfl ?_ | refine z_l (kk := ?_) | refine z_f (kk := ?_) | refine z_M (kk := ?_) | refine z_m (kk := ?_) | refine z_e (kk := ?_) | refine z_E (kk := ?_) | refine z_d (kk := ?_) | refine z_I (kk := fun _ => ?_) | refine z_J (kk := fun _ => ?_) | refine z_K (kk := fun _ => ?_) | refine z_L (kk := fun _ => ?_) | refine z_T (kk := ?_) | refine z_F (kk := ?_) | refine z_k (kk := fun _ _ _ _ _ => ?_) | refine z_w (kk := fun _ _ => ?_) | refine z_s (kk := fun _ _ _ _ => ?_) | refine z_g (kk := ?_) | refine z_h (kk := ?_)))
          exact W.fret rfl ⟨hb06, hfin2 _ _ (by unfold fixN; rw [if_pos (by omega)]) (by unfold fixN; rw [if_neg (by omega)])⟩
      · (repeat (first | with_reducible refine W.seq ?_ | with_reducible refine Ops.nil ?_ | with_reducible refine W.region ?_ | refine z_p (kk := ?_) | refine z_a (kk := ?_) | refine z_y (kk := ?_) | refine z_n (kk := ?_) | refine z_u (kk := ?_) | with_reducible refine W.skip ?_ | with_reducible refine W.endb ?_ | with_reducible refine W.block ?_ | refine W.exit rfl ?_ | refine z_l (kk := ?_) | refine z_f (kk := ?_) | refine z_M (kk := ?_) | refine z_m (kk := ?_) | refine z_e (kk := ?_) | refine z_E (kk := ?_) | refine z_d (kk := ?_) | refine z_I (kk := fun _ => ?_) | refine z_J (kk := fun _ => ?_) | refine z_K (kk := fun _ => ?_) | refine z_L (kk := fun _ => ?_) | refine z_T (kk := ?_) | refine z_F (kk := ?_) | refine z_k (kk := fun _ _ _ _ _ => ?_) | refine z_w (kk := fun _ _ => ?_) | refine z_s (kk := fun _ _ _ _ => ?_) | refine z_g (kk := ?_) | refine z_h (kk := ?_)))
        (first | refine W.condD rfl (fun hc => ?_) (fun hc => ?_) | refine W.condE rfl (fun hc => ?_) (fun hc => ?_) | refine W.condN rfl (fun hc => ?_) (fun hc => ?_) | refine W.cond rfl (fun hc => ?_) (fun hc => ?_))
        · (repeat (first | with_reducible refine W.seq ?_ | with_reducible refine Ops.nil ?_ | with_reducible refine W.region ?_ | refine z_p (kk := ?_) | refine z_a (kk := ?_) | refine z_y (kk := ?_) | refine z_n (kk := ?_) | refine z_u (kk := ?_) | with_reducible refine W.skip ?_ | with_reducible refine W.endb ?_ | with_reducible refine W.block ?_ | refine W.exit rfl ?_ | refine z_l (kk := ?_) | refine z_f (kk := ?_) | refine z_M (kk := ?_) | refine z_m (kk := ?_) | refine z_e (kk := ?_) | refine z_E (kk := ?_) | refine z_d (kk := ?_) | refine z_I (kk := fun _ => ?_) | refine z_J (kk := fun _ => ?_) | refine z_K (kk := fun _ => ?_) | refine z_L (kk := fun _ => ?_) | refine z_T (kk := ?_) | refine z_F (kk := ?_) | refine z_k (kk := fun _ _ _ _ _ => ?_) | refine z_w (kk := fun _ _ => ?_) | refine z_s (kk := fun _ _ _ _ => ?_) | refine z_g (kk := ?_) | refine z_h (kk := ?_)))
          exact W.fret rfl ⟨hb06, hfin2 _ _ (by unfold fixN; rw [if_neg (by omega)]) (by unfold fixN; rw [if_pos (by omega)])⟩
        · (repeat (first | with_reducible refine W.seq ?_ | with_reducible refine Ops.nil ?_ | with_reducible refine W.region ?_ | refine z_p (kk := ?_) | refine z_a (kk := ?_) | refine z_y (kk := ?_) | refine z_n (kk := ?_) | refine z_u (kk := ?_) | with_reducible refine W.skip ?_ | with_reducible refine W.endb ?_ | with_reducible refine W.block ?_ | refine W.exit rfl ?_ | refine z_l (kk := ?_) | refine z_f (kk := ?_) | refine z_M (kk := ?_) | refine z_m (kk := ?_) | refine z_e (kk := ?_) | refine z_E (kk := ?_) | refine z_d (kk := ?_) | refine z_I (kk := fun _ => ?_) | refine z_J (kk := fun _ => ?_) | refine z_K (kk := fun _ => ?_) | refine z_L (kk := fun _ => ?_) | refine z_T (kk := ?_) | refine z_F (kk := ?_) | refine z_k (kk := fun _ _ _ _ _ => ?_) | refine z_w (kk := fun _ _ => ?_) | refine z_s (kk := fun _ _ _ _ => ?_) | refine z_g (kk := ?_) | refine z_h (kk := ?_)))
          exact W.fret rfl ⟨hb06, hfin2 _ _ (by unfold fixN; rw [if_neg (by omega)]) (by unfold fixN; rw [if_neg (by omega)])⟩
end Go.Proofs.Ytdiljpnfochndaa
namespace Go.Proofs.Ytdiljpnfochndaa
open Go Go.RowKit Go.Proofs.Ytdiljpnfochndaa.VW
open Go.Proofs.Ytdiljpnfochndaa.HP (Nd kid wor leafB rd evB gameOf gameOf_TF ValP NV far TF Dn k_ RNeedP RN farR TK Ef NeedP GoodE)
attribute [local irreducible] W Ops OrdA VW.Ord OrdX
theorem Arg.below {w w' : World} {v : Value} {xs : List Int} (h : Arg w v xs) (k : Below w.heap.size w w') : Arg w' v xs := ⟨Sl.below h.1 k, h.2⟩
theorem treeM_kid (l : List Nd) (i : Nat) : (kid (treeM l) i).length ≤ 61 := by
  unfold kid treeM
  rw [List.getD_eq_getElem?_getD, List.getElem?_map]
  cases hx : (l.take 61)[((i : Nat) : Int).toNat]? with
  | none => simp
  | some x => simp; omega
/-- The program's numbers and the reference's. -/
theorem num_eq {l : List Nd} {dep S : List Int} {b y : Int} {mx : Bool} {al : Int → Int} {rs : List Int} (hT : TF l dep) (hy : NumR l dep S b mx y) (hR : RNeedP l dep mx al rs)
    (hal : ∀ i : Nat, i < l.length → leafB l i = true → (numF l S b mx i < far → al i = numF l S b mx i) ∧ (numF l S b mx i = far → al i = farR)) : y = fixN (rs.getD 0 0) := by
  obtain ⟨es, hE, rfl⟩ := hy
  have h1 := hT.n1
  have h3 := Go.Proofs.Ytdiljpnfochndaa.HP.ref_need hT hE hR (fun i _ => numF_3 _) hal 0 (by omega)
  have hs := Go.Proofs.Ytdiljpnfochndaa.HP.need_small hT hE (fun i _ => numF_3 _) 0 (by omega)
  have h60 := Go.Proofs.Ytdiljpnfochndaa.HP.small60 hT hs.1 hs.2
  have h2 := hs.2.hi
  generalize (es.getD 0 (0, [])).1 = T at *
  unfold fixN
  rcases Int.lt_or_le T far with h | h
  · have := h60 h
    rw [if_neg (by omega), h3.1 h, if_neg (by omega)]
  · rw [if_pos h, h3.2 (by omega), if_pos (by decide)]
theorem yes_al {l : List Nd} {S : List Int} {b : Int} (i : Nat) : (numF l S b true i < far → yesF l S b i = numF l S b true i) ∧ (numF l S b true i = far → yesF l S b i = farR) := by
  unfold numF yesF
  by_cases hc : S.contains (i : Int) = true
  · rw [if_pos hc, if_pos hc]
    by_cases hw : b ≤ wor l i
    · have h2 : ¬ wor l i < b := by omega
      simp [hw, h2, far]
    · have h2 : wor l i < b := by omega
      simp [hw, h2, far]
  · rw [if_neg hc, if_neg hc]; simp [far]
theorem no_al {l : List Nd} {S : List Int} {b : Int} (i : Nat) : (numF l S b false i < far → noF l S b i = numF l S b false i) ∧ (numF l S b false i = far → noF l S b i = farR) := by
  unfold numF noF
  by_cases hc : S.contains (i : Int) = true
  · rw [if_pos hc, if_pos hc]
    by_cases hw : b ≤ wor l i
    · have h2 : ¬ wor l i < b := by omega
      simp [hw, h2, far]
    · have h2 : wor l i < b := by omega
      simp [hw, h2, far]
  · rw [if_neg hc, if_neg hc]; simp [far]
theorem dec_least {l : List Nd} {dep S vs us : List Int} {b : Int} (hT : TF l dep) (hb : -1000 ≤ b) (hv : ValP l dep (worstF l S) vs) (hu : ValP l dep (restF l S (-1000000)) us) : b ≤ vs.getD 0 0 ↔ us.getD 0 0 ≥ b := by
  have h1 := hT.n1
  exact Go.Proofs.Ytdiljpnfochndaa.HP.val_thr hT hv hu (fun i _ _ => by
    unfold worstF restF
    split
    · exact Iff.rfl
    · simp only [far]; omega) 0 (by omega)
set_option maxHeartbeats 4000000 in
theorem decidesLaw_c {w : World} {mv lv : Value} {l : List Nd} {xs : List Int} {b : Int} (hm : ArgT w mv l) (hl : Arg w lv xs) :
    Calls Try.prog 4 #[mv, lv, .int .i64 b] w (Ret fun r w' => r = .bool true ∧ Below w.heap.size w w') := by
  refine calls_W (vs := [_, _, _]) Try.func4 rfl (by kernel_rfl) rfl ?_
  (repeat (first | with_reducible refine W.seq ?_ | with_reducible refine Ops.nil ?_ | with_reducible refine W.region ?_ | refine z_p (kk := ?_) | refine z_a (kk := ?_) | refine z_y (kk := ?_) | refine z_n (kk := ?_) | refine z_u (kk := ?_) | with_reducible refine W.skip ?_ | with_reducible refine W.endb ?_ | with_reducible refine W.block ?_ | refine W.exit rfl ?_ | refine z_l (kk := ?_) | refine z_f (kk := ?_) | refine z_M (kk := ?_) | refine z_m (kk := ?_) | refine z_e (kk := ?_) | refine z_E (kk := ?_) | refine z_d (kk := ?_) | refine z_I (kk := fun _ => ?_) | refine z_J (kk := fun _ => ?_) | refine z_K (kk := fun _ => ?_) | refine z_L (kk := fun _ => ?_) | refine z_T (kk := ?_) | refine z_F (kk := ?_) | refine z_k (kk := fun _ _ _ _ _ => ?_) | refine z_w (kk := fun _ _ => ?_) | refine z_s (kk := fun _ _ _ _ => ?_) | refine z_g (kk := ?_) | refine z_h (kk := ?_)))
  refine Ops.call rfl rfl rfl rfl rfl (tree_c hm) (fun tv w1 hR => ?_)
  obtain ⟨hb1, hT1⟩ := hR
  have hlen := treeM_len l
  have hkl : ∀ i : Nat, i < (treeM l).length → (kid (treeM l) i).length ≤ 1000 := fun i _ => by have := treeM_kid l i; omega
  generalize treeM l = t at *
  obtain ⟨At, ct, rfl⟩ := hT1.sl
  (repeat (first | with_reducible refine W.seq ?_ | with_reducible refine Ops.nil ?_ | with_reducible refine W.region ?_ | refine z_p (kk := ?_) | refine z_a (kk := ?_) | refine z_y (kk := ?_) | refine z_n (kk := ?_) | refine z_u (kk := ?_) | with_reducible refine W.skip ?_ | with_reducible refine W.endb ?_ | with_reducible refine W.block ?_ | refine W.exit rfl ?_ | refine z_l (kk := ?_) | refine z_f (kk := ?_) | refine z_M (kk := ?_) | refine z_m (kk := ?_) | refine z_e (kk := ?_) | refine z_E (kk := ?_) | refine z_d (kk := ?_) | refine z_I (kk := fun _ => ?_) | refine z_J (kk := fun _ => ?_) | refine z_K (kk := fun _ => ?_) | refine z_L (kk := fun _ => ?_) | refine z_T (kk := ?_) | refine z_F (kk := ?_) | refine z_k (kk := fun _ _ _ _ _ => ?_) | refine z_w (kk := fun _ _ => ?_) | refine z_s (kk := fun _ _ _ _ => ?_) | refine z_g (kk := ?_) | refine z_h (kk := ?_)))
  refine Ops.call rfl rfl rfl rfl rfl (list_c (hl.below hb1)) (fun sv w2 hR => ?_)
  have hb2 := Below.via hb1 hR.bel
  have hT2 := hT1.below hR.bel
  have hS2 := hR.sl (z := (0 : Int))
  obtain ⟨As, cs, rfl⟩ := hR.sh
  clear hR hl hm hT1
  generalize xs.take 61 = S at *
  (repeat (first | with_reducible refine W.seq ?_ | with_reducible refine Ops.nil ?_ | with_reducible refine W.region ?_ | refine z_p (kk := ?_) | refine z_a (kk := ?_) | refine z_y (kk := ?_) | refine z_n (kk := ?_) | refine z_u (kk := ?_) | with_reducible refine W.skip ?_ | with_reducible refine W.endb ?_ | with_reducible refine W.block ?_ | refine W.exit rfl ?_ | refine z_l (kk := ?_) | refine z_f (kk := ?_) | refine z_M (kk := ?_) | refine z_m (kk := ?_) | refine z_e (kk := ?_) | refine z_E (kk := ?_) | refine z_d (kk := ?_) | refine z_I (kk := fun _ => ?_) | refine z_J (kk := fun _ => ?_) | refine z_K (kk := fun _ => ?_) | refine z_L (kk := fun _ => ?_) | refine z_T (kk := ?_) | refine z_F (kk := ?_) | refine z_k (kk := fun _ _ _ _ _ => ?_) | refine z_w (kk := fun _ _ => ?_) | refine z_s (kk := fun _ _ _ _ => ?_) | refine z_g (kk := ?_) | refine z_h (kk := ?_)))
  refine Ops.call rfl rfl rfl rfl rfl (decides_c hT2 (by omega) hS2) (fun r w3 hR => ?_)
  obtain ⟨hb3, hD⟩ := hR
  have hb03 := Below.via hb2 hb3
  have hT3 := hT2.below hb3
  have hS3 := Sl.below hS2 hb3
  clear hT2 hS2
  by_cases hgood : ∃ dep, gameOf t = some dep ∧ Listed t S ∧ -1000 ≤ b ∧ b ≤ 1000
  · obtain ⟨dep, hg, hls, hbd⟩ := hgood
    have hTF := gameOf_TF hg
    have hn60 := hTF.n60
    unfold DecR at hD
    rw [if_pos ⟨hls, hbd⟩, hg] at hD
    obtain ⟨vs, hvs, rfl⟩ := hD
    (repeat (first | with_reducible refine W.seq ?_ | with_reducible refine Ops.nil ?_ | with_reducible refine W.region ?_ | refine z_p (kk := ?_) | refine z_a (kk := ?_) | refine z_y (kk := ?_) | refine z_n (kk := ?_) | refine z_u (kk := ?_) | with_reducible refine W.skip ?_ | with_reducible refine W.endb ?_ | with_reducible refine W.block ?_ | refine W.exit rfl ?_ | refine z_l (kk := ?_) | refine z_f (kk := ?_) | refine z_M (kk := ?_) | refine z_m (kk := ?_) | refine z_e (kk := ?_) | refine z_E (kk := ?_) | refine z_d (kk := ?_) | refine z_I (kk := fun _ => ?_) | refine z_J (kk := fun _ => ?_) | refine z_K (kk := fun _ => ?_) | refine z_L (kk := fun _ => ?_) | refine z_T (kk := ?_) | refine z_F (kk := ?_) | refine z_k (kk := fun _ _ _ _ _ => ?_) | refine z_w (kk := fun _ _ => ?_) | refine z_s (kk := fun _ _ _ _ => ?_) | refine z_g (kk := ?_) | refine z_h (kk := ?_)))
    refine Ops.call rfl rfl rfl rfl rfl (numbers_c hT3 (by omega) hS3) (fun r w4 hR => ?_)
    obtain ⟨hb4, hN⟩ := hR
    have hb04 := Below.via hb03 hb4
    have hT4 := hT3.below hb4
    have hS4 := Sl.below hS3 hb4
    unfold NumbersR at hN
    rw [if_pos ⟨hls, hbd⟩, hg] at hN
    obtain ⟨y, z, hy, hz, rfl⟩ := hN
    (repeat (first | with_reducible refine W.seq ?_ | with_reducible refine Ops.nil ?_ | with_reducible refine W.region ?_ | refine z_p (kk := ?_) | refine z_a (kk := ?_) | refine z_y (kk := ?_) | refine z_n (kk := ?_) | refine z_u (kk := ?_) | with_reducible refine W.skip ?_ | with_reducible refine W.endb ?_ | with_reducible refine W.block ?_ | refine W.exit rfl ?_ | refine z_l (kk := ?_) | refine z_f (kk := ?_) | refine z_M (kk := ?_) | refine z_m (kk := ?_) | refine z_e (kk := ?_) | refine z_E (kk := ?_) | refine z_d (kk := ?_) | refine z_I (kk := fun _ => ?_) | refine z_J (kk := fun _ => ?_) | refine z_K (kk := fun _ => ?_) | refine z_L (kk := fun _ => ?_) | refine z_T (kk := ?_) | refine z_F (kk := ?_) | refine z_k (kk := fun _ _ _ _ _ => ?_) | refine z_w (kk := fun _ _ => ?_) | refine z_s (kk := fun _ _ _ _ => ?_) | refine z_g (kk := ?_) | refine z_h (kk := ?_)))
    refine Ops.call rfl rfl rfl rfl rfl (refTree_c hT4 hkl) (fun r w5 hR => ?_)
    obtain ⟨rfl, hb5⟩ := hR
    have hb05 := Below.via hb04 hb5
    have hT5 := hT4.below hb5
    have hS5 := Sl.below hS4 hb5
    rw [hg]
    (repeat (first | with_reducible refine W.seq ?_ | with_reducible refine Ops.nil ?_ | with_reducible refine W.region ?_ | refine z_p (kk := ?_) | refine z_a (kk := ?_) | refine z_y (kk := ?_) | refine z_n (kk := ?_) | refine z_u (kk := ?_) | with_reducible refine W.skip ?_ | with_reducible refine W.endb ?_ | with_reducible refine W.block ?_ | refine W.exit rfl ?_ | refine z_l (kk := ?_) | refine z_f (kk := ?_) | refine z_M (kk := ?_) | refine z_m (kk := ?_) | refine z_e (kk := ?_) | refine z_E (kk := ?_) | refine z_d (kk := ?_) | refine z_I (kk := fun _ => ?_) | refine z_J (kk := fun _ => ?_) | refine z_K (kk := fun _ => ?_) | refine z_L (kk := fun _ => ?_) | refine z_T (kk := ?_) | refine z_F (kk := ?_) | refine z_k (kk := fun _ _ _ _ _ => ?_) | refine z_w (kk := fun _ _ => ?_) | refine z_s (kk := fun _ _ _ _ => ?_) | refine z_g (kk := ?_) | refine z_h (kk := ?_)))
    refine Ops.call rfl rfl rfl rfl rfl (listed_c hT5 hn60 hS5) (fun r w6 hR => ?_)
    obtain ⟨rfl, hb6⟩ := hR
    have hb06 := Below.via hb05 hb6
    have hT6 := hT5.below hb6
    have hS6 := Sl.below hS5 hb6
    rw [decide_eq_true hls]
    (repeat (first | with_reducible refine W.seq ?_ | with_reducible refine Ops.nil ?_ | with_reducible refine W.region ?_ | refine z_p (kk := ?_) | refine z_a (kk := ?_) | refine z_y (kk := ?_) | refine z_n (kk := ?_) | refine z_u (kk := ?_) | with_reducible refine W.skip ?_ | with_reducible refine W.endb ?_ | with_reducible refine W.block ?_ | refine W.exit rfl ?_ | refine z_l (kk := ?_) | refine z_f (kk := ?_) | refine z_M (kk := ?_) | refine z_m (kk := ?_) | refine z_e (kk := ?_) | refine z_E (kk := ?_) | refine z_d (kk := ?_) | refine z_I (kk := fun _ => ?_) | refine z_J (kk := fun _ => ?_) | refine z_K (kk := fun _ => ?_) | refine z_L (kk := fun _ => ?_) | refine z_T (kk := ?_) | refine z_F (kk := ?_) | refine z_k (kk := fun _ _ _ _ _ => ?_) | refine z_w (kk := fun _ _ => ?_) | refine z_s (kk := fun _ _ _ _ => ?_) | refine z_g (kk := ?_) | refine z_h (kk := ?_)))
    refine Ops.callS rfl rfl rfl rfl rfl (bound_c _ _) ?_
    rw [decide_eq_true hbd]
    (repeat (first | with_reducible refine W.seq ?_ | with_reducible refine Ops.nil ?_ | with_reducible refine W.region ?_ | refine z_p (kk := ?_) | refine z_a (kk := ?_) | refine z_y (kk := ?_) | refine z_n (kk := ?_) | refine z_u (kk := ?_) | with_reducible refine W.skip ?_ | with_reducible refine W.endb ?_ | with_reducible refine W.block ?_ | refine W.exit rfl ?_ | refine z_l (kk := ?_) | refine z_f (kk := ?_) | refine z_M (kk := ?_) | refine z_m (kk := ?_) | refine z_e (kk := ?_) | refine z_E (kk := ?_) | refine z_d (kk := ?_) | refine z_I (kk := fun _ => ?_) | refine z_J (kk := fun _ => ?_) | refine z_K (kk := fun _ => ?_) | refine z_L (kk := fun _ => ?_) | refine z_T (kk := ?_) | refine z_F (kk := ?_) | refine z_k (kk := fun _ _ _ _ _ => ?_) | refine z_w (kk := fun _ _ => ?_) | refine z_s (kk := fun _ _ _ _ => ?_) | refine z_g (kk := ?_) | refine z_h (kk := ?_)))
    refine W.condF rfl (by first | rfl | assumption | (simp only [bnf] <;> omega) | (simp only [*, bnf]; done) | fail) ?_
    (repeat (first | with_reducible refine W.seq ?_ | with_reducible refine Ops.nil ?_ | with_reducible refine W.region ?_ | refine z_p (kk := ?_) | refine z_a (kk := ?_) | refine z_y (kk := ?_) | refine z_n (kk := ?_) | refine z_u (kk := ?_) | with_reducible refine W.skip ?_ | with_reducible refine W.endb ?_ | with_reducible refine W.block ?_ | refine W.exit rfl ?_ | refine z_l (kk := ?_) | refine z_f (kk := ?_) | refine z_M (kk := ?_) | refine z_m (kk := ?_) | refine z_e (kk := ?_) | refine z_E (kk := ?_) | refine z_d (kk := ?_) | refine z_I (kk := fun _ => ?_) | refine z_J (kk := fun _ => ?_) | refine z_K (kk := fun _ => ?_) | refine z_L (kk := fun _ => ?_) | refine z_T (kk := ?_) | refine z_F (kk := ?_) | refine z_k (kk := fun _ _ _ _ _ => ?_) | refine z_w (kk := fun _ _ => ?_) | refine z_s (kk := fun _ _ _ _ => ?_) | refine z_g (kk := ?_) | refine z_h (kk := ?_)))
    refine Ops.call rfl rfl rfl rfl rfl (refNumbers_c hT6 hTF hS6 hls) (fun r w7 hR => ?_)
    obtain ⟨hb7, rs, qs, hrs, hqs, rfl⟩ := hR
    have hb07 := Below.via hb06 hb7
    have hT7 := hT6.below hb7
    have hS7 := Sl.below hS6 hb7
    rw [← num_eq hTF hy hrs (fun i _ _ => yes_al i), ← num_eq hTF hz hqs (fun i _ _ => no_al i)]
    (repeat (first | with_reducible refine W.seq ?_ | with_reducible refine Ops.nil ?_ | with_reducible refine W.region ?_ | refine z_p (kk := ?_) | refine z_a (kk := ?_) | refine z_y (kk := ?_) | refine z_n (kk := ?_) | refine z_u (kk := ?_) | with_reducible refine W.skip ?_ | with_reducible refine W.endb ?_ | with_reducible refine W.block ?_ | refine W.exit rfl ?_ | refine z_l (kk := ?_) | refine z_f (kk := ?_) | refine z_M (kk := ?_) | refine z_m (kk := ?_) | refine z_e (kk := ?_) | refine z_E (kk := ?_) | refine z_d (kk := ?_) | refine z_I (kk := fun _ => ?_) | refine z_J (kk := fun _ => ?_) | refine z_K (kk := fun _ => ?_) | refine z_L (kk := fun _ => ?_) | refine z_T (kk := ?_) | refine z_F (kk := ?_) | refine z_k (kk := fun _ _ _ _ _ => ?_) | refine z_w (kk := fun _ _ => ?_) | refine z_s (kk := fun _ _ _ _ => ?_) | refine z_g (kk := ?_) | refine z_h (kk := ?_)))
    refine Ops.call rfl rfl rfl rfl rfl (least_c hT7 hTF hS7 hls) (fun r w8 hR => ?_)
    obtain ⟨hb8, us, hus, rfl⟩ := hR
    have hb08 := Below.via hb07 hb8
    have hdl : decide (us.getD 0 0 ≥ b) = decide (b ≤ vs.getD 0 0) := by rw [decide_eq_decide]; exact (dec_least hTF hbd.1 hvs hus).symm
    refine Ops.pu rfl rfl rfl ?_
    refine Ops.pu rfl rfl rfl ?_
    rw [hdl]
    (repeat (first | with_reducible refine W.seq ?_ | with_reducible refine Ops.nil ?_ | with_reducible refine W.region ?_ | refine z_p (kk := ?_) | refine z_a (kk := ?_) | refine z_y (kk := ?_) | refine z_n (kk := ?_) | refine z_u (kk := ?_) | with_reducible refine W.skip ?_ | with_reducible refine W.endb ?_ | with_reducible refine W.block ?_ | refine W.exit rfl ?_ | refine z_l (kk := ?_) | refine z_f (kk := ?_) | refine z_M (kk := ?_) | refine z_m (kk := ?_) | refine z_e (kk := ?_) | refine z_E (kk := ?_) | refine z_d (kk := ?_) | refine z_I (kk := fun _ => ?_) | refine z_J (kk := fun _ => ?_) | refine z_K (kk := fun _ => ?_) | refine z_L (kk := fun _ => ?_) | refine z_T (kk := ?_) | refine z_F (kk := ?_) | refine z_k (kk := fun _ _ _ _ _ => ?_) | refine z_w (kk := fun _ _ => ?_) | refine z_s (kk := fun _ _ _ _ => ?_) | refine z_g (kk := ?_) | refine z_h (kk := ?_)))
    refine Ops.call rfl rfl rfl rfl rfl (awake_c _) (fun r w9 hR => ?_)
    obtain ⟨rfl, hb9⟩ := hR
    (repeat (first | with_reducible refine W.seq ?_ | with_reducible refine Ops.nil ?_ | with_reducible refine W.region ?_ | refine z_p (kk := ?_) | refine z_a (kk := ?_) | refine z_y (kk := ?_) | refine z_n (kk := ?_) | refine z_u (kk := ?_) | with_reducible refine W.skip ?_ | with_reducible refine W.endb ?_ | with_reducible refine W.block ?_ | refine W.exit rfl ?_ | refine z_l (kk := ?_) | refine z_f (kk := ?_) | refine z_M (kk := ?_) | refine z_m (kk := ?_) | refine z_e (kk := ?_) | refine z_E (kk := ?_) | refine z_d (kk := ?_) | refine z_I (kk := fun _ => ?_) | refine z_J (kk := fun _ => ?_) | refine z_K (kk := fun _ => ?_) | refine z_L (kk := fun _ => ?_) | refine z_T (kk := ?_) | refine z_F (kk := ?_) | refine z_k (kk := fun _ _ _ _ _ => ?_) | refine z_w (kk := fun _ _ => ?_) | refine z_s (kk := fun _ _ _ _ => ?_) | refine z_g (kk := ?_) | refine z_h (kk := ?_)))
    exact W.fret rfl ⟨rfl, Below.via hb08 hb9⟩
  · have hno : (if Listed t S ∧ -1000 ≤ b ∧ b ≤ 1000 then gameOf t else none) = none := by
      split
      · rename_i h
        cases hg : gameOf t with
        | none => rfl
        | some dep => exact absurd ⟨dep, hg, h⟩ hgood
      · rfl
    unfold DecR at hD
    rw [hno] at hD
    obtain rfl := hD
    (repeat (first | with_reducible refine W.seq ?_ | with_reducible refine Ops.nil ?_ | with_reducible refine W.region ?_ | refine z_p (kk := ?_) | refine z_a (kk := ?_) | refine z_y (kk := ?_) | refine z_n (kk := ?_) | refine z_u (kk := ?_) | with_reducible refine W.skip ?_ | with_reducible refine W.endb ?_ | with_reducible refine W.block ?_ | refine W.exit rfl ?_ | refine z_l (kk := ?_) | refine z_f (kk := ?_) | refine z_M (kk := ?_) | refine z_m (kk := ?_) | refine z_e (kk := ?_) | refine z_E (kk := ?_) | refine z_d (kk := ?_) | refine z_I (kk := fun _ => ?_) | refine z_J (kk := fun _ => ?_) | refine z_K (kk := fun _ => ?_) | refine z_L (kk := fun _ => ?_) | refine z_T (kk := ?_) | refine z_F (kk := ?_) | refine z_k (kk := fun _ _ _ _ _ => ?_) | refine z_w (kk := fun _ _ => ?_) | refine z_s (kk := fun _ _ _ _ => ?_) | refine z_g (kk := ?_) | refine z_h (kk := ?_)))
    refine Ops.call rfl rfl rfl rfl rfl (numbers_c hT3 (by omega) hS3) (fun r w4 hR => ?_)
    obtain ⟨hb4, hN⟩ := hR
    have hb04 := Below.via hb03 hb4
    have hT4 := hT3.below hb4
    have hS4 := Sl.below hS3 hb4
    unfold NumbersR at hN
    rw [hno] at hN
    obtain rfl := hN
    (repeat (first | with_reducible refine W.seq ?_ | with_reducible refine Ops.nil ?_ | with_reducible refine W.region ?_ | refine z_p (kk := ?_) | refine z_a (kk := ?_) | refine z_y (kk := ?_) | refine z_n (kk := ?_) | refine z_u (kk := ?_) | with_reducible refine W.skip ?_ | with_reducible refine W.endb ?_ | with_reducible refine W.block ?_ | refine W.exit rfl ?_ | refine z_l (kk := ?_) | refine z_f (kk := ?_) | refine z_M (kk := ?_) | refine z_m (kk := ?_) | refine z_e (kk := ?_) | refine z_E (kk := ?_) | refine z_d (kk := ?_) | refine z_I (kk := fun _ => ?_) | refine z_J (kk := fun _ => ?_) | refine z_K (kk := fun _ => ?_) | refine z_L (kk := fun _ => ?_) | refine z_T (kk := ?_) | refine z_F (kk := ?_) | refine z_k (kk := fun _ _ _ _ _ => ?_) | refine z_w (kk := fun _ _ => ?_) | refine z_s (kk := fun _ _ _ _ => ?_) | refine z_g (kk := ?_) | refine z_h (kk := ?_)))
    refine Ops.call rfl rfl rfl rfl rfl (refTree_c hT4 hkl) (fun r w5 hR => ?_)
    obtain ⟨rfl, hb5⟩ := hR
    have hb05 := Below.via hb04 hb5
    have hT5 := hT4.below hb5
    have hS5 := Sl.below hS4 hb5
    refine Ops.cut (fun ρ w' => ρ = [(48, .bool true), (9, .bool false), (10, .int .i64 2), (11, .int .i64 0), (12, .int .i64 0), (13, .int .i64 2)] ∧ Below w.heap.size w w') ?_ ?_
    · cases hg : gameOf t with
      | none =>
        (repeat (first | with_reducible refine W.seq ?_ | with_reducible refine Ops.nil ?_ | with_reducible refine W.region ?_ | refine z_p (kk := ?_) | refine z_a (kk := ?_) | refine z_y (kk := ?_) | refine z_n (kk := ?_) | refine z_u (kk := ?_) | with_reducible refine W.skip ?_ | with_reducible refine W.endb ?_ | with_reducible refine W.block ?_ | refine W.exit rfl ?_ | refine z_l (kk := ?_) | refine z_f (kk := ?_) | refine z_M (kk := ?_) | refine z_m (kk := ?_) | refine z_e (kk := ?_) | refine z_E (kk := ?_) | refine z_d (kk := ?_) | refine z_I (kk := fun _ => ?_) | refine z_J (kk := fun _ => ?_) | refine z_K (kk := fun _ => ?_) | refine z_L (kk := fun _ => ?_) | refine z_T (kk := ?_) | refine z_F (kk := ?_) | refine z_k (kk := fun _ _ _ _ _ => ?_) | refine z_w (kk := fun _ _ => ?_) | refine z_s (kk := fun _ _ _ _ => ?_) | refine z_g (kk := ?_) | refine z_h (kk := ?_)))
        exact W.endl ⟨_, ⟨rfl, hb05⟩, (by repeat (first | exact trivial | refine And.intro rfl ?_))⟩
      | some dep =>
        have hTF := gameOf_TF hg
        have hn60 := hTF.n60
        (repeat (first | with_reducible refine W.seq ?_ | with_reducible refine Ops.nil ?_ | with_reducible refine W.region ?_ | refine z_p (kk := ?_) | refine z_a (kk := ?_) | refine z_y (kk := ?_) | refine z_n (kk := ?_) | refine z_u (kk := ?_) | with_reducible refine W.skip ?_ | with_reducible refine W.endb ?_ | with_reducible refine W.block ?_ | refine W.exit rfl ?_ | refine z_l (kk := ?_) | refine z_f (kk := ?_) | refine z_M (kk := ?_) | refine z_m (kk := ?_) | refine z_e (kk := ?_) | refine z_E (kk := ?_) | refine z_d (kk := ?_) | refine z_I (kk := fun _ => ?_) | refine z_J (kk := fun _ => ?_) | refine z_K (kk := fun _ => ?_) | refine z_L (kk := fun _ => ?_) | refine z_T (kk := ?_) | refine z_F (kk := ?_) | refine z_k (kk := fun _ _ _ _ _ => ?_) | refine z_w (kk := fun _ _ => ?_) | refine z_s (kk := fun _ _ _ _ => ?_) | refine z_g (kk := ?_) | refine z_h (kk := ?_)))
        refine Ops.call rfl rfl rfl rfl rfl (listed_c hT5 hn60 hS5) (fun r w6 hR => ?_)
        obtain ⟨rfl, hb6⟩ := hR
        have hb06 := Below.via hb05 hb6
        by_cases hls : Listed t S
        · have hbd : ¬ (-1000 ≤ b ∧ b ≤ 1000) := fun h => hgood ⟨dep, hg, hls, h⟩
          rw [decide_eq_true hls]
          (repeat (first | with_reducible refine W.seq ?_ | with_reducible refine Ops.nil ?_ | with_reducible refine W.region ?_ | refine z_p (kk := ?_) | refine z_a (kk := ?_) | refine z_y (kk := ?_) | refine z_n (kk := ?_) | refine z_u (kk := ?_) | with_reducible refine W.skip ?_ | with_reducible refine W.endb ?_ | with_reducible refine W.block ?_ | refine W.exit rfl ?_ | refine z_l (kk := ?_) | refine z_f (kk := ?_) | refine z_M (kk := ?_) | refine z_m (kk := ?_) | refine z_e (kk := ?_) | refine z_E (kk := ?_) | refine z_d (kk := ?_) | refine z_I (kk := fun _ => ?_) | refine z_J (kk := fun _ => ?_) | refine z_K (kk := fun _ => ?_) | refine z_L (kk := fun _ => ?_) | refine z_T (kk := ?_) | refine z_F (kk := ?_) | refine z_k (kk := fun _ _ _ _ _ => ?_) | refine z_w (kk := fun _ _ => ?_) | refine z_s (kk := fun _ _ _ _ => ?_) | refine z_g (kk := ?_) | refine z_h (kk := ?_)))
          refine Ops.callS rfl rfl rfl rfl rfl (bound_c _ _) ?_
          rw [decide_eq_false hbd]
          (repeat (first | with_reducible refine W.seq ?_ | with_reducible refine Ops.nil ?_ | with_reducible refine W.region ?_ | refine z_p (kk := ?_) | refine z_a (kk := ?_) | refine z_y (kk := ?_) | refine z_n (kk := ?_) | refine z_u (kk := ?_) | with_reducible refine W.skip ?_ | with_reducible refine W.endb ?_ | with_reducible refine W.block ?_ | refine W.exit rfl ?_ | refine z_l (kk := ?_) | refine z_f (kk := ?_) | refine z_M (kk := ?_) | refine z_m (kk := ?_) | refine z_e (kk := ?_) | refine z_E (kk := ?_) | refine z_d (kk := ?_) | refine z_I (kk := fun _ => ?_) | refine z_J (kk := fun _ => ?_) | refine z_K (kk := fun _ => ?_) | refine z_L (kk := fun _ => ?_) | refine z_T (kk := ?_) | refine z_F (kk := ?_) | refine z_k (kk := fun _ _ _ _ _ => ?_) | refine z_w (kk := fun _ _ => ?_) | refine z_s (kk := fun _ _ _ _ => ?_) | refine z_g (kk := ?_) | refine z_h (kk := ?_)))
          exact W.endl ⟨_, ⟨rfl, hb06⟩, (by repeat (first | exact trivial | refine And.intro rfl ?_))⟩
        · rw [decide_eq_false hls]
          (repeat (first | with_reducible refine W.seq ?_ | with_reducible refine Ops.nil ?_ | with_reducible refine W.region ?_ | refine z_p (kk := ?_) | refine z_a (kk := ?_) | refine z_y (kk := ?_) | refine z_n (kk := ?_) | refine z_u (kk := ?_) | with_reducible refine W.skip ?_ | with_reducible refine W.endb ?_ | with_reducible refine W.block ?_ | refine W.exit rfl ?_ | refine z_l (kk := ?_) | refine z_f (kk := ?_) | refine z_M (kk := ?_) | refine z_m (kk := ?_) | refine z_e (kk := ?_) | refine z_E (kk := ?_) | refine z_d (kk := ?_) | refine z_I (kk := fun _ => ?_) | refine z_J (kk := fun _ => ?_) | refine z_K (kk := fun _ => ?_) | refine z_L (kk := fun _ => ?_) | refine z_T (kk := ?_) | refine z_F (kk := ?_) | refine z_k (kk := fun _ _ _ _ _ => ?_) | refine z_w (kk := fun _ _ => ?_) | refine z_s (kk := fun _ _ _ _ => ?_) | refine z_g (kk := ?_) | refine z_h (kk := ?_)))
          exact W.endl ⟨_, ⟨rfl, hb06⟩, (by repeat (first | exact trivial | refine And.intro rfl ?_))⟩
    rintro ρ w6 ⟨rfl, hb06⟩
    refine W.condT rfl (by first | rfl | assumption | (simp only [bnf] <;> omega) | (simp only [*, bnf]; done) | fail) ?_
    (repeat (first | with_reducible refine W.seq ?_ | with_reducible refine Ops.nil ?_ | with_reducible refine W.region ?_ | refine z_p (kk := ?_) | refine z_a (kk := ?_) | refine z_y (kk := ?_) | refine z_n (kk := ?_) | refine z_u (kk := ?_) | with_reducible refine W.skip ?_ | with_reducible refine W.endb ?_ | with_reducible refine W.block ?_ | refine W.exit rfl ?_ | refine z_l (kk := ?_) | refine z_f (kk := ?_) | refine z_M (kk := ?_) | refine z_m (kk := ?_) | refine z_e (kk := ?_) | refine z_E (kk := ?_) | refine z_d (kk := ?_) | refine z_I (kk := fun _ => ?_) | refine z_J (kk := fun _ => ?_) | refine z_K (kk := fun _ => ?_) | refine z_L (kk := fun _ => ?_) | refine z_T (kk := ?_) | refine z_F (kk := ?_) | refine z_k (kk := fun _ _ _ _ _ => ?_) | refine z_w (kk := fun _ _ => ?_) | refine z_s (kk := fun _ _ _ _ => ?_) | refine z_g (kk := ?_) | refine z_h (kk := ?_)))
    refine Ops.call rfl rfl rfl rfl rfl (awake_c _) (fun r w7 hR => ?_)
    obtain ⟨rfl, hb7⟩ := hR
    (repeat (first | with_reducible refine W.seq ?_ | with_reducible refine Ops.nil ?_ | with_reducible refine W.region ?_ | refine z_p (kk := ?_) | refine z_a (kk := ?_) | refine z_y (kk := ?_) | refine z_n (kk := ?_) | refine z_u (kk := ?_) | with_reducible refine W.skip ?_ | with_reducible refine W.endb ?_ | with_reducible refine W.block ?_ | refine W.exit rfl ?_ | refine z_l (kk := ?_) | refine z_f (kk := ?_) | refine z_M (kk := ?_) | refine z_m (kk := ?_) | refine z_e (kk := ?_) | refine z_E (kk := ?_) | refine z_d (kk := ?_) | refine z_I (kk := fun _ => ?_) | refine z_J (kk := fun _ => ?_) | refine z_K (kk := fun _ => ?_) | refine z_L (kk := fun _ => ?_) | refine z_T (kk := ?_) | refine z_F (kk := ?_) | refine z_k (kk := fun _ _ _ _ _ => ?_) | refine z_w (kk := fun _ _ => ?_) | refine z_s (kk := fun _ _ _ _ => ?_) | refine z_g (kk := ?_) | refine z_h (kk := ?_)))
    exact W.fret rfl ⟨rfl, Below.via hb06 hb7⟩
end Go.Proofs.Ytdiljpnfochndaa
/- When there is a proof. -/
namespace Go.Proofs.Ytdiljpnfochndaa.HP
theorem proof_far {l : List Nd} {dep : List Int} {lf wf : Int → Int} {es : List Ef} {vs : List Int} {b : Int} (hT : TF l dep) (hE : NeedP l dep true lf es) (hv : ValP l dep wf vs) (h3 : ∀ i : Nat, leafB l i = true → lf i = 0 ∨ lf i = 1 ∨ lf i = far)
    (h : ∀ i : Nat, i < l.length → leafB l i = true → b ≤ wf i → lf i < far) : ∀ j : Nat, j < l.length → b ≤ vs.getD j 0 → (es.getD j (0, [])).1 < far := by
  have sE := need_small hT hE h3
  refine tree_ind hT (Q := fun j => b ≤ vs.getD j 0 → (es.getD j (0, [])).1 < far) fun j hj hk => ?_
  have kE : ∀ c ∈ kid l j, GoodE l c (ed es c).2 ∧ Small l (ed es c) := fun c hc => by obtain ⟨i, rfl, hi, _⟩ := hk c hc; exact sE i hi
  have kD : ∀ c ∈ kid l j, b ≤ rd vs c → (ed es c).1 < far := fun c hc => by obtain ⟨i, rfl, hi, h⟩ := hk c hc; exact h
  have hs := (sE j hj).2.hi
  rw [hE.at_ j hj] at hs ⊢
  rw [hv.at_ j hj]
  unfold NE at hs ⊢
  unfold NV
  by_cases hl : leafB l j = true
  · rw [if_pos hl, if_pos hl]
    exact h j hj hl
  · have hne := leaf_ne hl
    rw [if_neg hl] at hs
    rw [if_neg hl, if_neg hl]
    by_cases he : evB dep j = true
    · rw [if_pos he, if_pos (by rw [he]; rfl), maxL_ge hne]
      rintro ⟨c, hc, h1⟩
      exact Int.lt_of_le_of_lt ((pick_le (es := es) (kid l j) (far, [])).2.1 c hc) (kD c hc h1)
    · rw [if_neg (by simpa using he)] at hs
      rw [if_neg he, if_neg (by simpa using he), minL_ge hne]
      intro h1
      rcases Int.lt_or_le ((kid l j).foldl (joinF es) (0, [])).1 far with h2 | h2
      · exact h2
      · obtain ⟨c, hc, e⟩ := (joinFar hT hj kE).1 (Int.le_antisymm hs h2)
        have := kD c hc (h1 c hc)
        omega
theorem refute_far {l : List Nd} {dep : List Int} {lf wf : Int → Int} {es : List Ef} {vs : List Int} {b : Int} (hT : TF l dep) (hE : NeedP l dep false lf es) (hv : ValP l dep wf vs) (h3 : ∀ i : Nat, leafB l i = true → lf i = 0 ∨ lf i = 1 ∨ lf i = far)
    (h : ∀ i : Nat, i < l.length → leafB l i = true → wf i ≤ b → lf i < far) : ∀ j : Nat, j < l.length → vs.getD j 0 ≤ b → (es.getD j (0, [])).1 < far := by
  have sE := need_small hT hE h3
  refine tree_ind hT (Q := fun j => vs.getD j 0 ≤ b → (es.getD j (0, [])).1 < far) fun j hj hk => ?_
  have kE : ∀ c ∈ kid l j, GoodE l c (ed es c).2 ∧ Small l (ed es c) := fun c hc => by obtain ⟨i, rfl, hi, _⟩ := hk c hc; exact sE i hi
  have kD : ∀ c ∈ kid l j, rd vs c ≤ b → (ed es c).1 < far := fun c hc => by obtain ⟨i, rfl, hi, h⟩ := hk c hc; exact h
  have hs := (sE j hj).2.hi
  rw [hE.at_ j hj] at hs ⊢
  rw [hv.at_ j hj]
  unfold NE at hs ⊢
  unfold NV
  by_cases hl : leafB l j = true
  · rw [if_pos hl, if_pos hl]
    exact h j hj hl
  · have hne := leaf_ne hl
    rw [if_neg hl] at hs
    rw [if_neg hl, if_neg hl]
    by_cases he : evB dep j = true
    · rw [if_neg (by rw [he]; simp)] at hs
      rw [if_pos he, if_neg (by rw [he]; simp), maxL_le hne]
      intro h1
      rcases Int.lt_or_le ((kid l j).foldl (joinF es) (0, [])).1 far with h2 | h2
      · exact h2
      · obtain ⟨c, hc, e⟩ := (joinFar hT hj kE).1 (Int.le_antisymm hs h2)
        have := kD c hc (h1 c hc)
        omega
    · have he' : evB dep j = false := by simpa using he
      rw [if_neg he, if_pos (by rw [he']; rfl), minL_le hne]
      rintro ⟨c, hc, h1⟩
      exact Int.lt_of_le_of_lt ((pick_le (es := es) (kid l j) (far, [])).2.1 c hc) (kD c hc h1)
end Go.Proofs.Ytdiljpnfochndaa.HP
