/- A part of the walk: what this seat's statements share. -/
import Derived.Test.YtdiljpnfochndaaZG11
import Derived.Test.YtdiljpnfochndaaZG3
import Derived.Test.YtdiljpnfochndaaZG7
import Derived.Test.YtdiljpnfochndaaZG2
import Derived.Test.YtdiljpnfochndaaZG12
set_option linter.unusedVariables false
set_option linter.unusedSimpArgs false
set_option linter.unusedSectionVars false
namespace Go.Proofs.Ytdiljpnfochndaa
open Go Go.RowKit Go.Proofs.Ytdiljpnfochndaa.VW
open Go.Proofs.Ytdiljpnfochndaa.HP (Nd kid wor leafB k_ Dn TK TF gameOf gameOf_TF ValP NV)
attribute [local irreducible] W Ops OrdA VW.Ord OrdX
theorem bgetD_set_eq {bs : List Bool} {c : Nat} {x : Bool} (h : c < bs.length) : (bs.set c x).getD c false = x := by
  rw [List.getD_eq_getElem?_getD, List.getElem?_set_self h]; rfl
theorem bgetD_set_ne {bs : List Bool} {c d : Nat} {x : Bool} (h : c ≠ d) : (bs.set c x).getD d false = bs.getD d false := by
  rw [List.getD_eq_getElem?_getD, List.getElem?_set_ne h, ← List.getD_eq_getElem?_getD]
def worOk (l : List Nd) (a : Nat) : Prop := -100 ≤ wor l a ∧ wor l a ≤ 100 ∧ (0 < (kid l a).length → wor l a = 0)
structure SI (l : List Nd) (i j q : Nat) (bs : List Bool) : Prop where
  len : bs.length = l.length
  p1 : ∀ a b, Dn i j a b → b < (kid l a).length → (a : Int) < k_ l a b ∧ k_ l a b < l.length ∧ bs.getD (k_ l a b).toNat false = true
  p2 : ∀ c : Nat, bs.getD c false = true → ∃ a b, Dn i j a b ∧ b < (kid l a).length ∧ k_ l a b = c
  p3 : ∀ a b a' b', Dn i j a b → b < (kid l a).length → Dn i j a' b' → b' < (kid l a').length → k_ l a b = k_ l a' b' → a = a' ∧ b = b'
  wo : ∀ a, a < q → worOk l a
theorem SI.start (l : List Nd) : SI l 0 0 0 (List.replicate l.length false) :=
  ⟨by simp, fun a b h => by unfold Dn at h; omega, fun c h => by rw [List.getD_eq_getElem?_getD, List.getElem?_replicate] at h; split at h <;> simp at h, fun a b a' b' h => by unfold Dn at h; omega, fun a h => by omega⟩
theorem SI.step {l : List Nd} {i j q : Nat} {bs : List Bool} (h : SI l i j q bs) (hj : j < (kid l i).length) (h1 : (i : Int) < k_ l i j) (h2 : k_ l i j < l.length) (h3 : bs.getD (k_ l i j).toNat false = false) : SI l i (j + 1) q (bs.set (k_ l i j).toNat true) := by
  have hl := h.len
  have hsub : ∀ a b, Dn i (j + 1) a b → Dn i j a b ∨ (a = i ∧ b = j) := by intro a b hd; unfold Dn at *; omega
  have hold : ∀ a b, Dn i j a b → b < (kid l a).length → (k_ l a b).toNat ≠ (k_ l i j).toNat := fun a b hd hb e => by
    have := (h.p1 a b hd hb).2.2
    rw [e, h3] at this; cases this
  refine ⟨by simpa using hl, fun a b hd hb => ?_, fun c hc => ?_, fun a b a' b' hd hb hd' hb' he => ?_, h.wo⟩
  · rcases hsub a b hd with hd | ⟨rfl, rfl⟩
    · obtain ⟨q1, q2, q3⟩ := h.p1 a b hd hb
      exact ⟨q1, q2, by rw [bgetD_set_ne (Ne.symm (hold a b hd hb))]; exact q3⟩
    · exact ⟨h1, h2, bgetD_set_eq (by omega)⟩
  · by_cases e : (k_ l i j).toNat = c
    · exact ⟨i, j, .inr ⟨rfl, by omega⟩, hj, by omega⟩
    · rw [bgetD_set_ne e] at hc
      obtain ⟨a, b, hd, hb, hk⟩ := h.p2 c hc
      exact ⟨a, b, by unfold Dn at *; omega, hb, hk⟩
  · rcases hsub a b hd with hd | ⟨rfl, rfl⟩ <;> rcases hsub a' b' hd' with hd' | ⟨rfl, rfl⟩
    · exact h.p3 a b a' b' hd hb hd' hb' he
    · exact absurd (by rw [he]) (hold a b hd hb)
    · exact absurd (by rw [he]) (hold a' b' hd' hb')
    · exact ⟨rfl, rfl⟩
theorem SI.next {l : List Nd} {i : Nat} {bs : List Bool} (h : SI l i (kid l i).length (i + 1) bs) : SI l (i + 1) 0 (i + 1) bs := by
  have hd : ∀ a b, Dn (i + 1) 0 a b → b < (kid l a).length → Dn i (kid l i).length a b := by
    intro a b hd hb
    unfold Dn at *
    by_cases e : a = i
    · subst e; exact .inr ⟨rfl, hb⟩
    · omega
  exact ⟨h.len, fun a b h1 h2 => h.p1 a b (hd a b h1 h2) h2, fun c hc => by obtain ⟨a, b, h1, h2, h3⟩ := h.p2 c hc; exact ⟨a, b, by unfold Dn at *; omega, h2, h3⟩, fun a b a' b' h1 h2 h1' h2' he => h.p3 a b a' b' (hd a b h1 h2) h2 (hd a' b' h1' h2') h2' he, h.wo⟩
theorem tk_game {l : List Nd} : TK l ↔ (gameOf l).isSome = true := by
  constructor
  · intro h; obtain ⟨dep, hd⟩ := h.game; rw [hd]; rfl
  · intro h
    cases hg : gameOf l with
    | none => rw [hg] at h; cases h
    | some dep => exact (gameOf_TF hg).tk
theorem no_game {l : List Nd} (h : ¬ TK l) : (gameOf l).isSome = false := by
  cases hs : (gameOf l).isSome
  · rfl
  · exact absurd (tk_game.2 hs) h
theorem bound_c (b : Int) (w : World) : Calls Try.prog 21 #[.int .i64 b] w (Ret fun v w' => v = .bool (decide (-1000 ≤ b ∧ b ≤ 1000)) ∧ w' = w) := by
  refine calls_W (vs := [_]) Try.func21 rfl (by kernel_rfl) rfl ?_
  by_cases h1 : -1000 ≤ b
  · (repeat (first | with_reducible refine W.seq ?_ | with_reducible refine Ops.nil ?_ | with_reducible refine W.region ?_ | refine z_p (kk := ?_) | refine z_a (kk := ?_) | refine z_y (kk := ?_) | refine z_n (kk := ?_) | refine z_u (kk := ?_) | with_reducible refine W.skip ?_ | with_reducible refine W.endb ?_ | with_reducible refine W.block ?_ | refine W.exit rfl ?_ | refine z_l (kk := ?_) | refine z_f (kk := ?_) | refine z_M (kk := ?_) | refine z_m (kk := ?_) | refine z_e (kk := ?_) | refine z_E (kk := ?_) | refine z_d (kk := ?_) | refine z_I (kk := fun _ => ?_) | refine z_J (kk := fun _ => ?_) | refine z_K (kk := fun _ => ?_) | refine z_L (kk := fun _ => ?_) | refine z_T (kk := ?_) | refine z_F (kk := ?_) | refine z_k (kk := fun _ _ _ _ _ => ?_) | refine z_w (kk := fun _ _ => ?_) | refine z_s (kk := fun _ _ _ _ => ?_) | refine z_g (kk := ?_) | refine z_h (kk := ?_)))
    refine W.fret rfl ⟨?_, rfl⟩
    simp [resV, h1]
  · (repeat (first | with_reducible refine W.seq ?_ | with_reducible refine Ops.nil ?_ | with_reducible refine W.region ?_ | refine z_p (kk := ?_) | refine z_a (kk := ?_) | refine z_y (kk := ?_) | refine z_n (kk := ?_) | refine z_u (kk := ?_) | with_reducible refine W.skip ?_ | with_reducible refine W.endb ?_ | with_reducible refine W.block ?_ | refine W.exit rfl ?_ | refine z_l (kk := ?_) | refine z_f (kk := ?_) | refine z_M (kk := ?_) | refine z_m (kk := ?_) | refine z_e (kk := ?_) | refine z_E (kk := ?_) | refine z_d (kk := ?_) | refine z_I (kk := fun _ => ?_) | refine z_J (kk := fun _ => ?_) | refine z_K (kk := fun _ => ?_) | refine z_L (kk := fun _ => ?_) | refine z_T (kk := ?_) | refine z_F (kk := ?_) | refine z_k (kk := fun _ _ _ _ _ => ?_) | refine z_w (kk := fun _ _ => ?_) | refine z_s (kk := fun _ _ _ _ => ?_) | refine z_g (kk := ?_) | refine z_h (kk := ?_)))
    refine W.fret rfl ⟨?_, rfl⟩
    simp [resV, h1]
set_option maxHeartbeats 2000000 in
theorem refTree_c {w : World} {v : Value} {l : List Nd} (hTr : TreeM w v l) (hkl : ∀ i : Nat, i < l.length → (kid l i).length ≤ 1000) : Calls Try.prog 20 #[v] w (Ret fun r w' => r = .bool (gameOf l).isSome ∧ Below w.heap.size w w') := by
  obtain ⟨At, ct, rfl⟩ := hTr.sl
  refine calls_W (vs := [_]) Try.func20 rfl (by kernel_rfl) rfl ?_
  by_cases hn : 1 ≤ l.length ∧ l.length ≤ 60
  · obtain ⟨hn1, hn60⟩ := hn
    (repeat (first | with_reducible refine W.seq ?_ | with_reducible refine Ops.nil ?_ | with_reducible refine W.region ?_ | refine z_p (kk := ?_) | refine z_a (kk := ?_) | refine z_y (kk := ?_) | refine z_n (kk := ?_) | refine z_u (kk := ?_) | with_reducible refine W.skip ?_ | with_reducible refine W.endb ?_ | with_reducible refine W.block ?_ | refine W.exit rfl ?_ | refine z_l (kk := ?_) | refine z_f (kk := ?_) | refine z_M (kk := ?_) | refine z_m (kk := ?_) | refine z_e (kk := ?_) | refine z_E (kk := ?_) | refine z_d (kk := ?_) | refine z_I (kk := fun _ => ?_) | refine z_J (kk := fun _ => ?_) | refine z_K (kk := fun _ => ?_) | refine z_L (kk := fun _ => ?_) | refine z_T (kk := ?_) | refine z_F (kk := ?_) | refine z_k (kk := fun _ _ _ _ _ => ?_) | refine z_w (kk := fun _ _ => ?_) | refine z_s (kk := fun _ _ _ _ => ?_) | refine z_g (kk := ?_) | refine z_h (kk := ?_)))
    refine W.condF rfl (by first | rfl | assumption | (simp only [bnf] <;> omega) | (simp only [*, bnf]; done) | fail) ?_
    (repeat (first | with_reducible refine W.seq ?_ | with_reducible refine Ops.nil ?_ | with_reducible refine W.region ?_ | refine z_p (kk := ?_) | refine z_a (kk := ?_) | refine z_y (kk := ?_) | refine z_n (kk := ?_) | refine z_u (kk := ?_) | with_reducible refine W.skip ?_ | with_reducible refine W.endb ?_ | with_reducible refine W.block ?_ | refine W.exit rfl ?_ | refine z_l (kk := ?_) | refine z_f (kk := ?_) | refine z_M (kk := ?_) | refine z_m (kk := ?_) | refine z_e (kk := ?_) | refine z_E (kk := ?_) | refine z_d (kk := ?_) | refine z_I (kk := fun _ => ?_) | refine z_J (kk := fun _ => ?_) | refine z_K (kk := fun _ => ?_) | refine z_L (kk := fun _ => ?_) | refine z_T (kk := ?_) | refine z_F (kk := ?_) | refine z_k (kk := fun _ _ _ _ _ => ?_) | refine z_w (kk := fun _ _ => ?_) | refine z_s (kk := fun _ _ _ _ => ?_) | refine z_g (kk := ?_) | refine z_h (kk := ?_)))
    refine Ops.mkO (w0 := w) Value.bool false rfl rfl rfl rfl rfl rfl rfl rfl rfl (by omega) rfl (Below.refl _ _) (fun w2 dr hO2 k2 _ => ?_)
    have hS2 := SI.start l
    generalize List.replicate l.length false = os2 at *
    (repeat (first | with_reducible refine W.seq ?_ | with_reducible refine Ops.nil ?_ | with_reducible refine W.region ?_ | refine z_p (kk := ?_) | refine z_a (kk := ?_) | refine z_y (kk := ?_) | refine z_n (kk := ?_) | refine z_u (kk := ?_) | with_reducible refine W.skip ?_ | with_reducible refine W.endb ?_ | with_reducible refine W.block ?_ | refine W.exit rfl ?_ | refine z_l (kk := ?_) | refine z_f (kk := ?_) | refine z_M (kk := ?_) | refine z_m (kk := ?_) | refine z_e (kk := ?_) | refine z_E (kk := ?_) | refine z_d (kk := ?_) | refine z_I (kk := fun _ => ?_) | refine z_J (kk := fun _ => ?_) | refine z_K (kk := fun _ => ?_) | refine z_L (kk := fun _ => ?_) | refine z_T (kk := ?_) | refine z_F (kk := ?_) | refine z_k (kk := fun _ _ _ _ _ => ?_) | refine z_w (kk := fun _ _ => ?_) | refine z_s (kk := fun _ _ _ _ => ?_) | refine z_g (kk := ?_) | refine z_h (kk := ?_)))
    refine W.loop (fun m ρ w3 => ∃ (i : Nat) (bs : List Bool), m = l.length - i ∧ i ≤ l.length ∧ ρ = [(0, .slice At l.length ct), (3, .int .i64 l.length), (4, .slice (some ⟨dr, 0, none⟩) l.length l.length), (5, .int .i64 i)] ∧ OI 4 Value.bool w w3 (.slice (some ⟨dr, 0, none⟩) l.length l.length) bs ∧ SI l i 0 i bs)
      ⟨_, _, ⟨0, _, rfl, Nat.zero_le _, rfl, hO2, hS2⟩, (by repeat (first | exact trivial | refine And.intro rfl ?_))⟩ ?_
    clear hO2 hS2
    rintro m ρ w3 ⟨i, bs, rfl, hi, rfl, hO, hS⟩
    have hb3 := hO.bel
    (repeat (first | with_reducible refine W.seq ?_ | with_reducible refine Ops.nil ?_ | with_reducible refine W.region ?_ | refine z_p (kk := ?_) | refine z_a (kk := ?_) | refine z_y (kk := ?_) | refine z_n (kk := ?_) | refine z_u (kk := ?_) | with_reducible refine W.skip ?_ | with_reducible refine W.endb ?_ | with_reducible refine W.block ?_ | refine W.exit rfl ?_ | refine z_l (kk := ?_) | refine z_f (kk := ?_) | refine z_M (kk := ?_) | refine z_m (kk := ?_) | refine z_e (kk := ?_) | refine z_E (kk := ?_) | refine z_d (kk := ?_) | refine z_I (kk := fun _ => ?_) | refine z_J (kk := fun _ => ?_) | refine z_K (kk := fun _ => ?_) | refine z_L (kk := fun _ => ?_) | refine z_T (kk := ?_) | refine z_F (kk := ?_) | refine z_k (kk := fun _ _ _ _ _ => ?_) | refine z_w (kk := fun _ _ => ?_) | refine z_s (kk := fun _ _ _ _ => ?_) | refine z_g (kk := ?_) | refine z_h (kk := ?_)))
    (first | refine W.condD rfl (fun hc => ?_) (fun hc => ?_) | refine W.condE rfl (fun hc => ?_) (fun hc => ?_) | refine W.condN rfl (fun hc => ?_) (fun hc => ?_) | refine W.cond rfl (fun hc => ?_) (fun hc => ?_))
    · have hil : i < l.length := by omega
      by_cases hw : worOk l i
      · have hw1 := hw.1
        have hw2 := hw.2.1
        have hw3 := hw.2.2
        have hS1 : SI l i 0 (i + 1) bs := ⟨hS.len, hS.p1, hS.p2, hS.p3, fun a ha => by by_cases e : a = i; subst e; exact hw; exact hS.wo a (by omega)⟩
        (repeat (first | with_reducible refine W.seq ?_ | with_reducible refine Ops.nil ?_ | with_reducible refine W.region ?_ | refine z_p (kk := ?_) | refine z_a (kk := ?_) | refine z_y (kk := ?_) | refine z_n (kk := ?_) | refine z_u (kk := ?_) | with_reducible refine W.skip ?_ | with_reducible refine W.endb ?_ | with_reducible refine W.block ?_ | refine W.exit rfl ?_ | refine z_l (kk := ?_) | refine z_f (kk := ?_) | refine z_M (kk := ?_) | refine z_m (kk := ?_) | refine z_e (kk := ?_) | refine z_E (kk := ?_) | refine z_d (kk := ?_) | refine z_I (kk := fun _ => ?_) | refine z_J (kk := fun _ => ?_) | refine z_K (kk := fun _ => ?_) | refine z_L (kk := fun _ => ?_) | refine z_T (kk := ?_) | refine z_F (kk := ?_) | refine z_k (kk := fun _ _ _ _ _ => ?_) | refine z_w (kk := fun _ _ => ?_) | refine z_s (kk := fun _ _ _ _ => ?_) | refine z_g (kk := ?_) | refine z_h (kk := ?_)))
        refine Ops.cut (fun ρ w' => ρ = [(0, .slice At l.length ct), (3, .int .i64 l.length), (4, .slice (some ⟨dr, 0, none⟩) l.length l.length), (5, .int .i64 i), (54, .bool false)] ∧ w' = w3) ?_ ?_
        · by_cases hk0 : 0 < (kid l i).length
          · have := hw3 hk0
            (repeat (first | with_reducible refine W.seq ?_ | with_reducible refine Ops.nil ?_ | with_reducible refine W.region ?_ | refine z_p (kk := ?_) | refine z_a (kk := ?_) | refine z_y (kk := ?_) | refine z_n (kk := ?_) | refine z_u (kk := ?_) | with_reducible refine W.skip ?_ | with_reducible refine W.endb ?_ | with_reducible refine W.block ?_ | refine W.exit rfl ?_ | refine z_l (kk := ?_) | refine z_f (kk := ?_) | refine z_M (kk := ?_) | refine z_m (kk := ?_) | refine z_e (kk := ?_) | refine z_E (kk := ?_) | refine z_d (kk := ?_) | refine z_I (kk := fun _ => ?_) | refine z_J (kk := fun _ => ?_) | refine z_K (kk := fun _ => ?_) | refine z_L (kk := fun _ => ?_) | refine z_T (kk := ?_) | refine z_F (kk := ?_) | refine z_k (kk := fun _ _ _ _ _ => ?_) | refine z_w (kk := fun _ _ => ?_) | refine z_s (kk := fun _ _ _ _ => ?_) | refine z_g (kk := ?_) | refine z_h (kk := ?_)))
            exact W.endl ⟨_, ⟨rfl, rfl⟩, (by repeat (first | exact trivial | refine And.intro rfl ?_ | refine And.intro (look_b rfl (by first | rfl | assumption | (simp only [bnf] <;> omega) | (simp only [*, bnf]; done) | fail)) ?_))⟩
          · (repeat (first | with_reducible refine W.seq ?_ | with_reducible refine Ops.nil ?_ | with_reducible refine W.region ?_ | refine z_p (kk := ?_) | refine z_a (kk := ?_) | refine z_y (kk := ?_) | refine z_n (kk := ?_) | refine z_u (kk := ?_) | with_reducible refine W.skip ?_ | with_reducible refine W.endb ?_ | with_reducible refine W.block ?_ | refine W.exit rfl ?_ | refine z_l (kk := ?_) | refine z_f (kk := ?_) | refine z_M (kk := ?_) | refine z_m (kk := ?_) | refine z_e (kk := ?_) | refine z_E (kk := ?_) | refine z_d (kk := ?_) | refine z_I (kk := fun _ => ?_) | refine z_J (kk := fun _ => ?_) | refine z_K (kk := fun _ => ?_) | refine z_L (kk := fun _ => ?_) | refine z_T (kk := ?_) | refine z_F (kk := ?_) | refine z_k (kk := fun _ _ _ _ _ => ?_) | refine z_w (kk := fun _ _ => ?_) | refine z_s (kk := fun _ _ _ _ => ?_) | refine z_g (kk := ?_) | refine z_h (kk := ?_)))
            exact W.endl ⟨_, ⟨rfl, rfl⟩, (by repeat (first | exact trivial | refine And.intro rfl ?_ | refine And.intro (look_b rfl (by first | rfl | assumption | (simp only [bnf] <;> omega) | (simp only [*, bnf]; done) | fail)) ?_))⟩
        rintro ρ w6 ⟨rfl, rfl⟩
        refine W.condF rfl (by first | rfl | assumption | (simp only [bnf] <;> omega) | (simp only [*, bnf]; done) | fail) ?_
        (repeat (first | with_reducible refine W.seq ?_ | with_reducible refine Ops.nil ?_ | with_reducible refine W.region ?_ | refine z_p (kk := ?_) | refine z_a (kk := ?_) | refine z_y (kk := ?_) | refine z_n (kk := ?_) | refine z_u (kk := ?_) | with_reducible refine W.skip ?_ | with_reducible refine W.endb ?_ | with_reducible refine W.block ?_ | refine W.exit rfl ?_ | refine z_l (kk := ?_) | refine z_f (kk := ?_) | refine z_M (kk := ?_) | refine z_m (kk := ?_) | refine z_e (kk := ?_) | refine z_E (kk := ?_) | refine z_d (kk := ?_) | refine z_I (kk := fun _ => ?_) | refine z_J (kk := fun _ => ?_) | refine z_K (kk := fun _ => ?_) | refine z_L (kk := fun _ => ?_) | refine z_T (kk := ?_) | refine z_F (kk := ?_) | refine z_k (kk := fun _ _ _ _ _ => ?_) | refine z_w (kk := fun _ _ => ?_) | refine z_s (kk := fun _ _ _ _ => ?_) | refine z_g (kk := ?_) | refine z_h (kk := ?_)))
        refine W.loop (fun m ρ w4 => ∃ (j : Nat) (bs : List Bool), m = (kid l i).length - j ∧ j ≤ (kid l i).length ∧ ρ = [(0, .slice At l.length ct), (3, .int .i64 l.length), (4, .slice (some ⟨dr, 0, none⟩) l.length l.length), (5, .int .i64 i), (6, .int .i64 j)] ∧ OI 4 Value.bool w w4 (.slice (some ⟨dr, 0, none⟩) l.length l.length) bs ∧ SI l i j (i + 1) bs)
          ⟨_, _, ⟨0, _, rfl, Nat.zero_le _, rfl, hO, hS1⟩, (by repeat (first | exact trivial | refine And.intro rfl ?_))⟩ ?_
        clear hO hS hS1 hb3
        rintro m ρ w4 ⟨j, bs, rfl, hj, rfl, hO, hS⟩
        have hb4 := hO.bel
        have hkli := hkl i hil
        have hbl := hS.len
        (repeat (first | with_reducible refine W.seq ?_ | with_reducible refine Ops.nil ?_ | with_reducible refine W.region ?_ | refine z_p (kk := ?_) | refine z_a (kk := ?_) | refine z_y (kk := ?_) | refine z_n (kk := ?_) | refine z_u (kk := ?_) | with_reducible refine W.skip ?_ | with_reducible refine W.endb ?_ | with_reducible refine W.block ?_ | refine W.exit rfl ?_ | refine z_l (kk := ?_) | refine z_f (kk := ?_) | refine z_M (kk := ?_) | refine z_m (kk := ?_) | refine z_e (kk := ?_) | refine z_E (kk := ?_) | refine z_d (kk := ?_) | refine z_I (kk := fun _ => ?_) | refine z_J (kk := fun _ => ?_) | refine z_K (kk := fun _ => ?_) | refine z_L (kk := fun _ => ?_) | refine z_T (kk := ?_) | refine z_F (kk := ?_) | refine z_k (kk := fun _ _ _ _ _ => ?_) | refine z_w (kk := fun _ _ => ?_) | refine z_s (kk := fun _ _ _ _ => ?_) | refine z_g (kk := ?_) | refine z_h (kk := ?_)))
        (first | refine W.condD rfl (fun hc => ?_) (fun hc => ?_) | refine W.condE rfl (fun hc => ?_) (fun hc => ?_) | refine W.condN rfl (fun hc => ?_) (fun hc => ?_) | refine W.cond rfl (fun hc => ?_) (fun hc => ?_))
        · have hjl : j < (kid l i).length := by omega
          (repeat (first | with_reducible refine W.seq ?_ | with_reducible refine Ops.nil ?_ | with_reducible refine W.region ?_ | refine z_p (kk := ?_) | refine z_a (kk := ?_) | refine z_y (kk := ?_) | refine z_n (kk := ?_) | refine z_u (kk := ?_) | with_reducible refine W.skip ?_ | with_reducible refine W.endb ?_ | with_reducible refine W.block ?_ | refine W.exit rfl ?_ | refine z_l (kk := ?_) | refine z_f (kk := ?_) | refine z_M (kk := ?_) | refine z_m (kk := ?_) | refine z_e (kk := ?_) | refine z_E (kk := ?_) | refine z_d (kk := ?_) | refine z_I (kk := fun _ => ?_) | refine z_J (kk := fun _ => ?_) | refine z_K (kk := fun _ => ?_) | refine z_L (kk := fun _ => ?_) | refine z_T (kk := ?_) | refine z_F (kk := ?_) | refine z_k (kk := fun _ _ _ _ _ => ?_) | refine z_w (kk := fun _ _ => ?_) | refine z_s (kk := fun _ _ _ _ => ?_) | refine z_g (kk := ?_) | refine z_h (kk := ?_)))
          by_cases hok : (i : Int) < k_ l i j ∧ k_ l i j < l.length ∧ bs.getD (k_ l i j).toNat false = false
          · obtain ⟨q1, q2, q3⟩ := hok
            have hst := hS.step hjl q1 q2 q3
            simp only [k_] at q1 q2 q3 hst
            (repeat (first | with_reducible refine W.seq ?_ | with_reducible refine Ops.nil ?_ | with_reducible refine W.region ?_ | refine z_p (kk := ?_) | refine z_a (kk := ?_) | refine z_y (kk := ?_) | refine z_n (kk := ?_) | refine z_u (kk := ?_) | with_reducible refine W.skip ?_ | with_reducible refine W.endb ?_ | with_reducible refine W.block ?_ | refine W.exit rfl ?_ | refine z_l (kk := ?_) | refine z_f (kk := ?_) | refine z_M (kk := ?_) | refine z_m (kk := ?_) | refine z_e (kk := ?_) | refine z_E (kk := ?_) | refine z_d (kk := ?_) | refine z_I (kk := fun _ => ?_) | refine z_J (kk := fun _ => ?_) | refine z_K (kk := fun _ => ?_) | refine z_L (kk := fun _ => ?_) | refine z_T (kk := ?_) | refine z_F (kk := ?_) | refine z_k (kk := fun _ _ _ _ _ => ?_) | refine z_w (kk := fun _ _ => ?_) | refine z_s (kk := fun _ _ _ _ => ?_) | refine z_g (kk := ?_) | refine z_h (kk := ?_)))
            refine W.condF rfl (by first | rfl | assumption | (simp only [bnf] <;> omega) | (simp only [*, bnf]; done) | fail) ?_
            (repeat (first | with_reducible refine W.seq ?_ | with_reducible refine Ops.nil ?_ | with_reducible refine W.region ?_ | refine z_p (kk := ?_) | refine z_a (kk := ?_) | refine z_y (kk := ?_) | refine z_n (kk := ?_) | refine z_u (kk := ?_) | with_reducible refine W.skip ?_ | with_reducible refine W.endb ?_ | with_reducible refine W.block ?_ | refine W.exit rfl ?_ | refine z_l (kk := ?_) | refine z_f (kk := ?_) | refine z_M (kk := ?_) | refine z_m (kk := ?_) | refine z_e (kk := ?_) | refine z_E (kk := ?_) | refine z_d (kk := ?_) | refine z_I (kk := fun _ => ?_) | refine z_J (kk := fun _ => ?_) | refine z_K (kk := fun _ => ?_) | refine z_L (kk := fun _ => ?_) | refine z_T (kk := ?_) | refine z_F (kk := ?_) | refine z_k (kk := fun _ _ _ _ _ => ?_) | refine z_w (kk := fun _ _ => ?_) | refine z_s (kk := fun _ _ _ _ => ?_) | refine z_g (kk := ?_) | refine z_h (kk := ?_)))
            refine Ops.wrOi (enc := Value.bool) rfl rfl rfl rfl rfl rfl rfl rfl rfl rfl rfl rfl (by simp) rfl hO (by omega) (by omega) (fun w5 _ hO5 _ _ => ?_)
            (repeat (first | with_reducible refine W.seq ?_ | with_reducible refine Ops.nil ?_ | with_reducible refine W.region ?_ | refine z_p (kk := ?_) | refine z_a (kk := ?_) | refine z_y (kk := ?_) | refine z_n (kk := ?_) | refine z_u (kk := ?_) | with_reducible refine W.skip ?_ | with_reducible refine W.endb ?_ | with_reducible refine W.block ?_ | refine W.exit rfl ?_ | refine z_l (kk := ?_) | refine z_f (kk := ?_) | refine z_M (kk := ?_) | refine z_m (kk := ?_) | refine z_e (kk := ?_) | refine z_E (kk := ?_) | refine z_d (kk := ?_) | refine z_I (kk := fun _ => ?_) | refine z_J (kk := fun _ => ?_) | refine z_K (kk := fun _ => ?_) | refine z_L (kk := fun _ => ?_) | refine z_T (kk := ?_) | refine z_F (kk := ?_) | refine z_k (kk := fun _ _ _ _ _ => ?_) | refine z_w (kk := fun _ _ => ?_) | refine z_s (kk := fun _ _ _ _ => ?_) | refine z_g (kk := ?_) | refine z_h (kk := ?_)))
            exact W.endl ⟨_, _, ⟨⟨j + 1, _, rfl, by omega, rfl, hO5, hst⟩, by omega⟩, (by repeat (first | exact trivial | refine And.intro rfl ?_))⟩
          · have hno : (gameOf l).isSome = false := no_game fun hT => by
              have hk := hT.kin i j hil hjl
              refine hok ⟨hk.1, hk.2, ?_⟩
              cases hb : bs.getD (k_ l i j).toNat false
              · rfl
              · obtain ⟨a, b, h1, h2, h3⟩ := hS.p2 _ hb
                have ha : a < l.length := by unfold Dn at h1; omega
                have := hT.inj a b i j ha h2 hil hjl (by rw [h3]; omega)
                unfold Dn at h1; omega
            have hfin : ∀ w', Below w.heap.size w w' → (Value.bool false = .bool (gameOf l).isSome ∧ Below w.heap.size w w') := fun w' h => ⟨by rw [hno], h⟩
            simp only [k_] at hok
            by_cases q1 : (i : Int) < (kid l i).getD j 0
            · by_cases q2 : (kid l i).getD j 0 < l.length
              · have q3 : bs.getD ((kid l i).getD j 0).toNat false = true := by
                  cases hb : bs.getD ((kid l i).getD j 0).toNat false
                  · exact absurd ⟨q1, q2, hb⟩ hok
                  · rfl
                (repeat (first | with_reducible refine W.seq ?_ | with_reducible refine Ops.nil ?_ | with_reducible refine W.region ?_ | refine z_p (kk := ?_) | refine z_a (kk := ?_) | refine z_y (kk := ?_) | refine z_n (kk := ?_) | refine z_u (kk := ?_) | with_reducible refine W.skip ?_ | with_reducible refine W.endb ?_ | with_reducible refine W.block ?_ | refine W.exit rfl ?_ | refine z_l (kk := ?_) | refine z_f (kk := ?_) | refine z_M (kk := ?_) | refine z_m (kk := ?_) | refine z_e (kk := ?_) | refine z_E (kk := ?_) | refine z_d (kk := ?_) | refine z_I (kk := fun _ => ?_) | refine z_J (kk := fun _ => ?_) | refine z_K (kk := fun _ => ?_) | refine z_L (kk := fun _ => ?_) | refine z_T (kk := ?_) | refine z_F (kk := ?_) | refine z_k (kk := fun _ _ _ _ _ => ?_) | refine z_w (kk := fun _ _ => ?_) | refine z_s (kk := fun _ _ _ _ => ?_) | refine z_g (kk := ?_) | refine z_h (kk := ?_)))
                refine W.condT rfl (by first | rfl | assumption | (simp only [bnf] <;> omega) | (simp only [*, bnf]; done) | fail) ?_
                (repeat (first | with_reducible refine W.seq ?_ | with_reducible refine Ops.nil ?_ | with_reducible refine W.region ?_ | refine z_p (kk := ?_) | refine z_a (kk := ?_) | refine z_y (kk := ?_) | refine z_n (kk := ?_) | refine z_u (kk := ?_) | with_reducible refine W.skip ?_ | with_reducible refine W.endb ?_ | with_reducible refine W.block ?_ | refine W.exit rfl ?_ | refine z_l (kk := ?_) | refine z_f (kk := ?_) | refine z_M (kk := ?_) | refine z_m (kk := ?_) | refine z_e (kk := ?_) | refine z_E (kk := ?_) | refine z_d (kk := ?_) | refine z_I (kk := fun _ => ?_) | refine z_J (kk := fun _ => ?_) | refine z_K (kk := fun _ => ?_) | refine z_L (kk := fun _ => ?_) | refine z_T (kk := ?_) | refine z_F (kk := ?_) | refine z_k (kk := fun _ _ _ _ _ => ?_) | refine z_w (kk := fun _ _ => ?_) | refine z_s (kk := fun _ _ _ _ => ?_) | refine z_g (kk := ?_) | refine z_h (kk := ?_)))
                exact W.fret rfl (hfin _ hb4)
              · (repeat (first | with_reducible refine W.seq ?_ | with_reducible refine Ops.nil ?_ | with_reducible refine W.region ?_ | refine z_p (kk := ?_) | refine z_a (kk := ?_) | refine z_y (kk := ?_) | refine z_n (kk := ?_) | refine z_u (kk := ?_) | with_reducible refine W.skip ?_ | with_reducible refine W.endb ?_ | with_reducible refine W.block ?_ | refine W.exit rfl ?_ | refine z_l (kk := ?_) | refine z_f (kk := ?_) | refine z_M (kk := ?_) | refine z_m (kk := ?_) | refine z_e (kk := ?_) | refine z_E (kk := ?_) | refine z_d (kk := ?_) | refine z_I (kk := fun _ => ?_) | refine z_J (kk := fun _ => ?_) | refine z_K (kk := fun _ => ?_) | refine z_L (kk := fun _ => ?_) | refine z_T (kk := ?_) | refine z_F (kk := ?_) | refine z_k (kk := fun _ _ _ _ _ => ?_) | refine z_w (kk := fun _ _ => ?_) | refine z_s (kk := fun _ _ _ _ => ?_) | refine z_g (kk := ?_) | refine z_h (kk := ?_)))
                refine W.condT rfl (by first | rfl | assumption | (simp only [bnf] <;> omega) | (simp only [*, bnf]; done) | fail) ?_
                (repeat (first | with_reducible refine W.seq ?_ | with_reducible refine Ops.nil ?_ | with_reducible refine W.region ?_ | refine z_p (kk := ?_) | refine z_a (kk := ?_) | refine z_y (kk := ?_) | refine z_n (kk := ?_) | refine z_u (kk := ?_) | with_reducible refine W.skip ?_ | with_reducible refine W.endb ?_ | with_reducible refine W.block ?_ | refine W.exit rfl ?_ | refine z_l (kk := ?_) | refine z_f (kk := ?_) | refine z_M (kk := ?_) | refine z_m (kk := ?_) | refine z_e (kk := ?_) | refine z_E (kk := ?_) | refine z_d (kk := ?_) | refine z_I (kk := fun _ => ?_) | refine z_J (kk := fun _ => ?_) | refine z_K (kk := fun _ => ?_) | refine z_L (kk := fun _ => ?_) | refine z_T (kk := ?_) | refine z_F (kk := ?_) | refine z_k (kk := fun _ _ _ _ _ => ?_) | refine z_w (kk := fun _ _ => ?_) | refine z_s (kk := fun _ _ _ _ => ?_) | refine z_g (kk := ?_) | refine z_h (kk := ?_)))
                exact W.fret rfl (hfin _ hb4)
            · (repeat (first | with_reducible refine W.seq ?_ | with_reducible refine Ops.nil ?_ | with_reducible refine W.region ?_ | refine z_p (kk := ?_) | refine z_a (kk := ?_) | refine z_y (kk := ?_) | refine z_n (kk := ?_) | refine z_u (kk := ?_) | with_reducible refine W.skip ?_ | with_reducible refine W.endb ?_ | with_reducible refine W.block ?_ | refine W.exit rfl ?_ | refine z_l (kk := ?_) | refine z_f (kk := ?_) | refine z_M (kk := ?_) | refine z_m (kk := ?_) | refine z_e (kk := ?_) | refine z_E (kk := ?_) | refine z_d (kk := ?_) | refine z_I (kk := fun _ => ?_) | refine z_J (kk := fun _ => ?_) | refine z_K (kk := fun _ => ?_) | refine z_L (kk := fun _ => ?_) | refine z_T (kk := ?_) | refine z_F (kk := ?_) | refine z_k (kk := fun _ _ _ _ _ => ?_) | refine z_w (kk := fun _ _ => ?_) | refine z_s (kk := fun _ _ _ _ => ?_) | refine z_g (kk := ?_) | refine z_h (kk := ?_)))
              refine W.condT rfl (by first | rfl | assumption | (simp only [bnf] <;> omega) | (simp only [*, bnf]; done) | fail) ?_
              (repeat (first | with_reducible refine W.seq ?_ | with_reducible refine Ops.nil ?_ | with_reducible refine W.region ?_ | refine z_p (kk := ?_) | refine z_a (kk := ?_) | refine z_y (kk := ?_) | refine z_n (kk := ?_) | refine z_u (kk := ?_) | with_reducible refine W.skip ?_ | with_reducible refine W.endb ?_ | with_reducible refine W.block ?_ | refine W.exit rfl ?_ | refine z_l (kk := ?_) | refine z_f (kk := ?_) | refine z_M (kk := ?_) | refine z_m (kk := ?_) | refine z_e (kk := ?_) | refine z_E (kk := ?_) | refine z_d (kk := ?_) | refine z_I (kk := fun _ => ?_) | refine z_J (kk := fun _ => ?_) | refine z_K (kk := fun _ => ?_) | refine z_L (kk := fun _ => ?_) | refine z_T (kk := ?_) | refine z_F (kk := ?_) | refine z_k (kk := fun _ _ _ _ _ => ?_) | refine z_w (kk := fun _ _ => ?_) | refine z_s (kk := fun _ _ _ _ => ?_) | refine z_g (kk := ?_) | refine z_h (kk := ?_)))
              exact W.fret rfl (hfin _ hb4)
        · have hjl : j = (kid l i).length := by omega
          subst hjl
          have hn := hS.next
          (repeat (first | with_reducible refine W.seq ?_ | with_reducible refine Ops.nil ?_ | with_reducible refine W.region ?_ | refine z_p (kk := ?_) | refine z_a (kk := ?_) | refine z_y (kk := ?_) | refine z_n (kk := ?_) | refine z_u (kk := ?_) | with_reducible refine W.skip ?_ | with_reducible refine W.endb ?_ | with_reducible refine W.block ?_ | refine W.exit rfl ?_ | refine z_l (kk := ?_) | refine z_f (kk := ?_) | refine z_M (kk := ?_) | refine z_m (kk := ?_) | refine z_e (kk := ?_) | refine z_E (kk := ?_) | refine z_d (kk := ?_) | refine z_I (kk := fun _ => ?_) | refine z_J (kk := fun _ => ?_) | refine z_K (kk := fun _ => ?_) | refine z_L (kk := fun _ => ?_) | refine z_T (kk := ?_) | refine z_F (kk := ?_) | refine z_k (kk := fun _ _ _ _ _ => ?_) | refine z_w (kk := fun _ _ => ?_) | refine z_s (kk := fun _ _ _ _ => ?_) | refine z_g (kk := ?_) | refine z_h (kk := ?_)))
          exact W.endl ⟨_, _, ⟨⟨i + 1, _, rfl, by omega, rfl, hO, hn⟩, by omega⟩, (by repeat (first | exact trivial | refine And.intro rfl ?_))⟩
      · have hno : (gameOf l).isSome = false := no_game fun hT => hw (hT.wor i hil)
        have hfin : ∀ w', Below w.heap.size w w' → (Value.bool false = .bool (gameOf l).isSome ∧ Below w.heap.size w w') := fun w' h => ⟨by rw [hno], h⟩
        by_cases q1 : wor l i < -100
        · (repeat (first | with_reducible refine W.seq ?_ | with_reducible refine Ops.nil ?_ | with_reducible refine W.region ?_ | refine z_p (kk := ?_) | refine z_a (kk := ?_) | refine z_y (kk := ?_) | refine z_n (kk := ?_) | refine z_u (kk := ?_) | with_reducible refine W.skip ?_ | with_reducible refine W.endb ?_ | with_reducible refine W.block ?_ | refine W.exit rfl ?_ | refine z_l (kk := ?_) | refine z_f (kk := ?_) | refine z_M (kk := ?_) | refine z_m (kk := ?_) | refine z_e (kk := ?_) | refine z_E (kk := ?_) | refine z_d (kk := ?_) | refine z_I (kk := fun _ => ?_) | refine z_J (kk := fun _ => ?_) | refine z_K (kk := fun _ => ?_) | refine z_L (kk := fun _ => ?_) | refine z_T (kk := ?_) | refine z_F (kk := ?_) | refine z_k (kk := fun _ _ _ _ _ => ?_) | refine z_w (kk := fun _ _ => ?_) | refine z_s (kk := fun _ _ _ _ => ?_) | refine z_g (kk := ?_) | refine z_h (kk := ?_)))
          refine W.condT rfl (by first | rfl | assumption | (simp only [bnf] <;> omega) | (simp only [*, bnf]; done) | fail) ?_
          (repeat (first | with_reducible refine W.seq ?_ | with_reducible refine Ops.nil ?_ | with_reducible refine W.region ?_ | refine z_p (kk := ?_) | refine z_a (kk := ?_) | refine z_y (kk := ?_) | refine z_n (kk := ?_) | refine z_u (kk := ?_) | with_reducible refine W.skip ?_ | with_reducible refine W.endb ?_ | with_reducible refine W.block ?_ | refine W.exit rfl ?_ | refine z_l (kk := ?_) | refine z_f (kk := ?_) | refine z_M (kk := ?_) | refine z_m (kk := ?_) | refine z_e (kk := ?_) | refine z_E (kk := ?_) | refine z_d (kk := ?_) | refine z_I (kk := fun _ => ?_) | refine z_J (kk := fun _ => ?_) | refine z_K (kk := fun _ => ?_) | refine z_L (kk := fun _ => ?_) | refine z_T (kk := ?_) | refine z_F (kk := ?_) | refine z_k (kk := fun _ _ _ _ _ => ?_) | refine z_w (kk := fun _ _ => ?_) | refine z_s (kk := fun _ _ _ _ => ?_) | refine z_g (kk := ?_) | refine z_h (kk := ?_)))
          exact W.fret rfl (hfin _ hb3)
        · by_cases q2 : wor l i > 100
          · (repeat (first | with_reducible refine W.seq ?_ | with_reducible refine Ops.nil ?_ | with_reducible refine W.region ?_ | refine z_p (kk := ?_) | refine z_a (kk := ?_) | refine z_y (kk := ?_) | refine z_n (kk := ?_) | refine z_u (kk := ?_) | with_reducible refine W.skip ?_ | with_reducible refine W.endb ?_ | with_reducible refine W.block ?_ | refine W.exit rfl ?_ | refine z_l (kk := ?_) | refine z_f (kk := ?_) | refine z_M (kk := ?_) | refine z_m (kk := ?_) | refine z_e (kk := ?_) | refine z_E (kk := ?_) | refine z_d (kk := ?_) | refine z_I (kk := fun _ => ?_) | refine z_J (kk := fun _ => ?_) | refine z_K (kk := fun _ => ?_) | refine z_L (kk := fun _ => ?_) | refine z_T (kk := ?_) | refine z_F (kk := ?_) | refine z_k (kk := fun _ _ _ _ _ => ?_) | refine z_w (kk := fun _ _ => ?_) | refine z_s (kk := fun _ _ _ _ => ?_) | refine z_g (kk := ?_) | refine z_h (kk := ?_)))
            refine W.condT rfl (by first | rfl | assumption | (simp only [bnf] <;> omega) | (simp only [*, bnf]; done) | fail) ?_
            (repeat (first | with_reducible refine W.seq ?_ | with_reducible refine Ops.nil ?_ | with_reducible refine W.region ?_ | refine z_p (kk := ?_) | refine z_a (kk := ?_) | refine z_y (kk := ?_) | refine z_n (kk := ?_) | refine z_u (kk := ?_) | with_reducible refine W.skip ?_ | with_reducible refine W.endb ?_ | with_reducible refine W.block ?_ | refine W.exit rfl ?_ | refine z_l (kk := ?_) | refine z_f (kk := ?_) | refine z_M (kk := ?_) | refine z_m (kk := ?_) | refine z_e (kk := ?_) | refine z_E (kk := ?_) | refine z_d (kk := ?_) | refine z_I (kk := fun _ => ?_) | refine z_J (kk := fun _ => ?_) | refine z_K (kk := fun _ => ?_) | refine z_L (kk := fun _ => ?_) | refine z_T (kk := ?_) | refine z_F (kk := ?_) | refine z_k (kk := fun _ _ _ _ _ => ?_) | refine z_w (kk := fun _ _ => ?_) | refine z_s (kk := fun _ _ _ _ => ?_) | refine z_g (kk := ?_) | refine z_h (kk := ?_)))
            exact W.fret rfl (hfin _ hb3)
          · have q3 : 0 < (kid l i).length ∧ wor l i ≠ 0 := by
              refine Classical.byContradiction fun h => hw ⟨by omega, by omega, fun hp => by omega⟩
            obtain ⟨q3, q4⟩ := q3
            (repeat (first | with_reducible refine W.seq ?_ | with_reducible refine Ops.nil ?_ | with_reducible refine W.region ?_ | refine z_p (kk := ?_) | refine z_a (kk := ?_) | refine z_y (kk := ?_) | refine z_n (kk := ?_) | refine z_u (kk := ?_) | with_reducible refine W.skip ?_ | with_reducible refine W.endb ?_ | with_reducible refine W.block ?_ | refine W.exit rfl ?_ | refine z_l (kk := ?_) | refine z_f (kk := ?_) | refine z_M (kk := ?_) | refine z_m (kk := ?_) | refine z_e (kk := ?_) | refine z_E (kk := ?_) | refine z_d (kk := ?_) | refine z_I (kk := fun _ => ?_) | refine z_J (kk := fun _ => ?_) | refine z_K (kk := fun _ => ?_) | refine z_L (kk := fun _ => ?_) | refine z_T (kk := ?_) | refine z_F (kk := ?_) | refine z_k (kk := fun _ _ _ _ _ => ?_) | refine z_w (kk := fun _ _ => ?_) | refine z_s (kk := fun _ _ _ _ => ?_) | refine z_g (kk := ?_) | refine z_h (kk := ?_)))
            refine W.condT rfl (by first | rfl | assumption | (simp only [bnf] <;> omega) | (simp only [*, bnf]; done) | fail) ?_
            (repeat (first | with_reducible refine W.seq ?_ | with_reducible refine Ops.nil ?_ | with_reducible refine W.region ?_ | refine z_p (kk := ?_) | refine z_a (kk := ?_) | refine z_y (kk := ?_) | refine z_n (kk := ?_) | refine z_u (kk := ?_) | with_reducible refine W.skip ?_ | with_reducible refine W.endb ?_ | with_reducible refine W.block ?_ | refine W.exit rfl ?_ | refine z_l (kk := ?_) | refine z_f (kk := ?_) | refine z_M (kk := ?_) | refine z_m (kk := ?_) | refine z_e (kk := ?_) | refine z_E (kk := ?_) | refine z_d (kk := ?_) | refine z_I (kk := fun _ => ?_) | refine z_J (kk := fun _ => ?_) | refine z_K (kk := fun _ => ?_) | refine z_L (kk := fun _ => ?_) | refine z_T (kk := ?_) | refine z_F (kk := ?_) | refine z_k (kk := fun _ _ _ _ _ => ?_) | refine z_w (kk := fun _ _ => ?_) | refine z_s (kk := fun _ _ _ _ => ?_) | refine z_g (kk := ?_) | refine z_h (kk := ?_)))
            exact W.fret rfl (hfin _ hb3)
    · have hil : i = l.length := by omega
      subst hil
      (repeat (first | with_reducible refine W.seq ?_ | with_reducible refine Ops.nil ?_ | with_reducible refine W.region ?_ | refine z_p (kk := ?_) | refine z_a (kk := ?_) | refine z_y (kk := ?_) | refine z_n (kk := ?_) | refine z_u (kk := ?_) | with_reducible refine W.skip ?_ | with_reducible refine W.endb ?_ | with_reducible refine W.block ?_ | refine W.exit rfl ?_ | refine z_l (kk := ?_) | refine z_f (kk := ?_) | refine z_M (kk := ?_) | refine z_m (kk := ?_) | refine z_e (kk := ?_) | refine z_E (kk := ?_) | refine z_d (kk := ?_) | refine z_I (kk := fun _ => ?_) | refine z_J (kk := fun _ => ?_) | refine z_K (kk := fun _ => ?_) | refine z_L (kk := fun _ => ?_) | refine z_T (kk := ?_) | refine z_F (kk := ?_) | refine z_k (kk := fun _ _ _ _ _ => ?_) | refine z_w (kk := fun _ _ => ?_) | refine z_s (kk := fun _ _ _ _ => ?_) | refine z_g (kk := ?_) | refine z_h (kk := ?_)))
      refine W.loop (fun m ρ w4 => ∃ (c : Nat), m = l.length - c ∧ 1 ≤ c ∧ c ≤ l.length ∧ ρ = [(3, .int .i64 l.length), (4, .slice (some ⟨dr, 0, none⟩) l.length l.length), (8, .int .i64 c)] ∧ w4 = w3 ∧ ∀ x, 1 ≤ x → x < c → bs.getD x false = true)
        ⟨_, _, ⟨1, rfl, Nat.le_refl _, hn1, rfl, rfl, fun x h1 h2 => by omega⟩, (by repeat (first | exact trivial | refine And.intro rfl ?_))⟩ ?_
      rintro m ρ w4 ⟨c, rfl, hc1, hcl, rfl, rfl, hall⟩
      have hbl := hS.len
      (repeat (first | with_reducible refine W.seq ?_ | with_reducible refine Ops.nil ?_ | with_reducible refine W.region ?_ | refine z_p (kk := ?_) | refine z_a (kk := ?_) | refine z_y (kk := ?_) | refine z_n (kk := ?_) | refine z_u (kk := ?_) | with_reducible refine W.skip ?_ | with_reducible refine W.endb ?_ | with_reducible refine W.block ?_ | refine W.exit rfl ?_ | refine z_l (kk := ?_) | refine z_f (kk := ?_) | refine z_M (kk := ?_) | refine z_m (kk := ?_) | refine z_e (kk := ?_) | refine z_E (kk := ?_) | refine z_d (kk := ?_) | refine z_I (kk := fun _ => ?_) | refine z_J (kk := fun _ => ?_) | refine z_K (kk := fun _ => ?_) | refine z_L (kk := fun _ => ?_) | refine z_T (kk := ?_) | refine z_F (kk := ?_) | refine z_k (kk := fun _ _ _ _ _ => ?_) | refine z_w (kk := fun _ _ => ?_) | refine z_s (kk := fun _ _ _ _ => ?_) | refine z_g (kk := ?_) | refine z_h (kk := ?_)))
      (first | refine W.condD rfl (fun hc => ?_) (fun hc => ?_) | refine W.condE rfl (fun hc => ?_) (fun hc => ?_) | refine W.condN rfl (fun hc => ?_) (fun hc => ?_) | refine W.cond rfl (fun hc => ?_) (fun hc => ?_))
      · have hcl2 : c < l.length := by omega
        cases hbc : bs.getD c false with
        | true =>
          (repeat (first | with_reducible refine W.seq ?_ | with_reducible refine Ops.nil ?_ | with_reducible refine W.region ?_ | refine z_p (kk := ?_) | refine z_a (kk := ?_) | refine z_y (kk := ?_) | refine z_n (kk := ?_) | refine z_u (kk := ?_) | with_reducible refine W.skip ?_ | with_reducible refine W.endb ?_ | with_reducible refine W.block ?_ | refine W.exit rfl ?_ | refine z_l (kk := ?_) | refine z_f (kk := ?_) | refine z_M (kk := ?_) | refine z_m (kk := ?_) | refine z_e (kk := ?_) | refine z_E (kk := ?_) | refine z_d (kk := ?_) | refine z_I (kk := fun _ => ?_) | refine z_J (kk := fun _ => ?_) | refine z_K (kk := fun _ => ?_) | refine z_L (kk := fun _ => ?_) | refine z_T (kk := ?_) | refine z_F (kk := ?_) | refine z_k (kk := fun _ _ _ _ _ => ?_) | refine z_w (kk := fun _ _ => ?_) | refine z_s (kk := fun _ _ _ _ => ?_) | refine z_g (kk := ?_) | refine z_h (kk := ?_)))
          refine W.condF rfl (by first | rfl | assumption | (simp only [bnf] <;> omega) | (simp only [*, bnf]; done) | fail) ?_
          (repeat (first | with_reducible refine W.seq ?_ | with_reducible refine Ops.nil ?_ | with_reducible refine W.region ?_ | refine z_p (kk := ?_) | refine z_a (kk := ?_) | refine z_y (kk := ?_) | refine z_n (kk := ?_) | refine z_u (kk := ?_) | with_reducible refine W.skip ?_ | with_reducible refine W.endb ?_ | with_reducible refine W.block ?_ | refine W.exit rfl ?_ | refine z_l (kk := ?_) | refine z_f (kk := ?_) | refine z_M (kk := ?_) | refine z_m (kk := ?_) | refine z_e (kk := ?_) | refine z_E (kk := ?_) | refine z_d (kk := ?_) | refine z_I (kk := fun _ => ?_) | refine z_J (kk := fun _ => ?_) | refine z_K (kk := fun _ => ?_) | refine z_L (kk := fun _ => ?_) | refine z_T (kk := ?_) | refine z_F (kk := ?_) | refine z_k (kk := fun _ _ _ _ _ => ?_) | refine z_w (kk := fun _ _ => ?_) | refine z_s (kk := fun _ _ _ _ => ?_) | refine z_g (kk := ?_) | refine z_h (kk := ?_)))
          exact W.endl ⟨_, _, ⟨⟨c + 1, rfl, by omega, by omega, rfl, rfl, fun x h1 h2 => by by_cases e : x = c; subst e; exact hbc; exact hall x h1 (by omega)⟩, by omega⟩, (by repeat (first | exact trivial | refine And.intro rfl ?_))⟩
        | false =>
          have hno : (gameOf l).isSome = false := no_game fun hT => by
            obtain ⟨a, b, ha, hb, hk⟩ := hT.cov c hc1 hcl2
            have := (hS.p1 a b (.inl ha) hb).2.2
            rw [hk] at this
            simp only [Int.toNat_natCast] at this
            rw [hbc] at this
            cases this
          (repeat (first | with_reducible refine W.seq ?_ | with_reducible refine Ops.nil ?_ | with_reducible refine W.region ?_ | refine z_p (kk := ?_) | refine z_a (kk := ?_) | refine z_y (kk := ?_) | refine z_n (kk := ?_) | refine z_u (kk := ?_) | with_reducible refine W.skip ?_ | with_reducible refine W.endb ?_ | with_reducible refine W.block ?_ | refine W.exit rfl ?_ | refine z_l (kk := ?_) | refine z_f (kk := ?_) | refine z_M (kk := ?_) | refine z_m (kk := ?_) | refine z_e (kk := ?_) | refine z_E (kk := ?_) | refine z_d (kk := ?_) | refine z_I (kk := fun _ => ?_) | refine z_J (kk := fun _ => ?_) | refine z_K (kk := fun _ => ?_) | refine z_L (kk := fun _ => ?_) | refine z_T (kk := ?_) | refine z_F (kk := ?_) | refine z_k (kk := fun _ _ _ _ _ => ?_) | refine z_w (kk := fun _ _ => ?_) | refine z_s (kk := fun _ _ _ _ => ?_) | refine z_g (kk := ?_) | refine z_h (kk := ?_)))
          refine W.condT rfl (by first | rfl | assumption | (simp only [bnf] <;> omega) | (simp only [*, bnf]; done) | fail) ?_
          (repeat (first | with_reducible refine W.seq ?_ | with_reducible refine Ops.nil ?_ | with_reducible refine W.region ?_ | refine z_p (kk := ?_) | refine z_a (kk := ?_) | refine z_y (kk := ?_) | refine z_n (kk := ?_) | refine z_u (kk := ?_) | with_reducible refine W.skip ?_ | with_reducible refine W.endb ?_ | with_reducible refine W.block ?_ | refine W.exit rfl ?_ | refine z_l (kk := ?_) | refine z_f (kk := ?_) | refine z_M (kk := ?_) | refine z_m (kk := ?_) | refine z_e (kk := ?_) | refine z_E (kk := ?_) | refine z_d (kk := ?_) | refine z_I (kk := fun _ => ?_) | refine z_J (kk := fun _ => ?_) | refine z_K (kk := fun _ => ?_) | refine z_L (kk := fun _ => ?_) | refine z_T (kk := ?_) | refine z_F (kk := ?_) | refine z_k (kk := fun _ _ _ _ _ => ?_) | refine z_w (kk := fun _ _ => ?_) | refine z_s (kk := fun _ _ _ _ => ?_) | refine z_g (kk := ?_) | refine z_h (kk := ?_)))
          exact W.fret rfl ⟨by rw [hno]; rfl, hb3⟩
      · have hce : c = l.length := by omega
        subst hce
        have hyes : (gameOf l).isSome = true := tk_game.1 ⟨hn1, hn60, fun a b ha hb => ⟨(hS.p1 a b (.inl ha) hb).1, (hS.p1 a b (.inl ha) hb).2.1⟩, fun a b a' b' ha hb ha' hb' he => hS.p3 a b a' b' (.inl ha) hb (.inl ha') hb' he, fun c h1 h2 => by
          obtain ⟨a, b, h3, h4, h5⟩ := hS.p2 c (hall c h1 h2)
          exact ⟨a, b, by unfold Dn at h3; omega, h4, h5⟩, fun a ha => hS.wo a ha⟩
        (repeat (first | with_reducible refine W.seq ?_ | with_reducible refine Ops.nil ?_ | with_reducible refine W.region ?_ | refine z_p (kk := ?_) | refine z_a (kk := ?_) | refine z_y (kk := ?_) | refine z_n (kk := ?_) | refine z_u (kk := ?_) | with_reducible refine W.skip ?_ | with_reducible refine W.endb ?_ | with_reducible refine W.block ?_ | refine W.exit rfl ?_ | refine z_l (kk := ?_) | refine z_f (kk := ?_) | refine z_M (kk := ?_) | refine z_m (kk := ?_) | refine z_e (kk := ?_) | refine z_E (kk := ?_) | refine z_d (kk := ?_) | refine z_I (kk := fun _ => ?_) | refine z_J (kk := fun _ => ?_) | refine z_K (kk := fun _ => ?_) | refine z_L (kk := fun _ => ?_) | refine z_T (kk := ?_) | refine z_F (kk := ?_) | refine z_k (kk := fun _ _ _ _ _ => ?_) | refine z_w (kk := fun _ _ => ?_) | refine z_s (kk := fun _ _ _ _ => ?_) | refine z_g (kk := ?_) | refine z_h (kk := ?_)))
        exact W.fret rfl ⟨by rw [hyes]; rfl, hb3⟩
  · have hno : (gameOf l).isSome = false := no_game fun hT => hn ⟨hT.n1, hT.n60⟩
    by_cases h1 : l.length < 1
    · (repeat (first | with_reducible refine W.seq ?_ | with_reducible refine Ops.nil ?_ | with_reducible refine W.region ?_ | refine z_p (kk := ?_) | refine z_a (kk := ?_) | refine z_y (kk := ?_) | refine z_n (kk := ?_) | refine z_u (kk := ?_) | with_reducible refine W.skip ?_ | with_reducible refine W.endb ?_ | with_reducible refine W.block ?_ | refine W.exit rfl ?_ | refine z_l (kk := ?_) | refine z_f (kk := ?_) | refine z_M (kk := ?_) | refine z_m (kk := ?_) | refine z_e (kk := ?_) | refine z_E (kk := ?_) | refine z_d (kk := ?_) | refine z_I (kk := fun _ => ?_) | refine z_J (kk := fun _ => ?_) | refine z_K (kk := fun _ => ?_) | refine z_L (kk := fun _ => ?_) | refine z_T (kk := ?_) | refine z_F (kk := ?_) | refine z_k (kk := fun _ _ _ _ _ => ?_) | refine z_w (kk := fun _ _ => ?_) | refine z_s (kk := fun _ _ _ _ => ?_) | refine z_g (kk := ?_) | refine z_h (kk := ?_)))
      refine W.condT rfl (by first | rfl | assumption | (simp only [bnf] <;> omega) | (simp only [*, bnf]; done) | fail) ?_
      (repeat (first | with_reducible refine W.seq ?_ | with_reducible refine Ops.nil ?_ | with_reducible refine W.region ?_ | refine z_p (kk := ?_) | refine z_a (kk := ?_) | refine z_y (kk := ?_) | refine z_n (kk := ?_) | refine z_u (kk := ?_) | with_reducible refine W.skip ?_ | with_reducible refine W.endb ?_ | with_reducible refine W.block ?_ | refine W.exit rfl ?_ | refine z_l (kk := ?_) | refine z_f (kk := ?_) | refine z_M (kk := ?_) | refine z_m (kk := ?_) | refine z_e (kk := ?_) | refine z_E (kk := ?_) | refine z_d (kk := ?_) | refine z_I (kk := fun _ => ?_) | refine z_J (kk := fun _ => ?_) | refine z_K (kk := fun _ => ?_) | refine z_L (kk := fun _ => ?_) | refine z_T (kk := ?_) | refine z_F (kk := ?_) | refine z_k (kk := fun _ _ _ _ _ => ?_) | refine z_w (kk := fun _ _ => ?_) | refine z_s (kk := fun _ _ _ _ => ?_) | refine z_g (kk := ?_) | refine z_h (kk := ?_)))
      exact W.fret rfl ⟨by rw [hno]; rfl, Below.refl _ _⟩
    · have h2 : l.length > 60 := by omega
      (repeat (first | with_reducible refine W.seq ?_ | with_reducible refine Ops.nil ?_ | with_reducible refine W.region ?_ | refine z_p (kk := ?_) | refine z_a (kk := ?_) | refine z_y (kk := ?_) | refine z_n (kk := ?_) | refine z_u (kk := ?_) | with_reducible refine W.skip ?_ | with_reducible refine W.endb ?_ | with_reducible refine W.block ?_ | refine W.exit rfl ?_ | refine z_l (kk := ?_) | refine z_f (kk := ?_) | refine z_M (kk := ?_) | refine z_m (kk := ?_) | refine z_e (kk := ?_) | refine z_E (kk := ?_) | refine z_d (kk := ?_) | refine z_I (kk := fun _ => ?_) | refine z_J (kk := fun _ => ?_) | refine z_K (kk := fun _ => ?_) | refine z_L (kk := fun _ => ?_) | refine z_T (kk := ?_) | refine z_F (kk := ?_) | refine z_k (kk := fun _ _ _ _ _ => ?_) | refine z_w (kk := fun _ _ => ?_) | refine z_s (kk := fun _ _ _ _ => ?_) | refine z_g (kk := ?_) | refine z_h (kk := ?_)))
      refine W.condT rfl (by first | rfl | assumption | (simp only [bnf] <;> omega) | (simp only [*, bnf]; done) | fail) ?_
      (repeat (first | with_reducible refine W.seq ?_ | with_reducible refine Ops.nil ?_ | with_reducible refine W.region ?_ | refine z_p (kk := ?_) | refine z_a (kk := ?_) | refine z_y (kk := ?_) | refine z_n (kk := ?_) | refine z_u (kk := ?_) | with_reducible refine W.skip ?_ | with_reducible refine W.endb ?_ | with_reducible refine W.block ?_ | refine W.exit rfl ?_ | refine z_l (kk := ?_) | refine z_f (kk := ?_) | refine z_M (kk := ?_) | refine z_m (kk := ?_) | refine z_e (kk := ?_) | refine z_E (kk := ?_) | refine z_d (kk := ?_) | refine z_I (kk := fun _ => ?_) | refine z_J (kk := fun _ => ?_) | refine z_K (kk := fun _ => ?_) | refine z_L (kk := fun _ => ?_) | refine z_T (kk := ?_) | refine z_F (kk := ?_) | refine z_k (kk := fun _ _ _ _ _ => ?_) | refine z_w (kk := fun _ _ => ?_) | refine z_s (kk := fun _ _ _ _ => ?_) | refine z_g (kk := ?_) | refine z_h (kk := ?_)))
      exact W.fret rfl ⟨by rw [hno]; rfl, Below.refl _ _⟩
end Go.Proofs.Ytdiljpnfochndaa
namespace Go.Proofs.Ytdiljpnfochndaa
open Go Go.RowKit Go.Proofs.Ytdiljpnfochndaa.VW
open Go.Proofs.Ytdiljpnfochndaa.HP (Nd kid wor leafB rd modM modM_bd chM chM_len rounds tameM tameN addKid)
attribute [local irreducible] W Ops
theorem wrap_u (x : Int) : IntKind.u64.wrap x = x % 18446744073709551616 := by
  simp [IntKind.wrap, IntKind.bits, IntKind.signed]
theorem wrap_i {x : Int} (h0 : 0 ≤ x) (h1 : x < 9223372036854775808) : IntKind.i64.wrap x = x := by
  have : x % 18446744073709551616 = x := by omega
  simp [IntKind.wrap, IntKind.bits, IntKind.signed, this]
  omega
theorem mod_c (x n : Int) (w : World) (h0 : 0 < n) (h1 : n < 9223372036854775808) : Calls Try.prog 34 #[.int .i64 x, .int .i64 n] w (Ret fun r w' => r = .int .i64 (modM x n) ∧ w' = w) := by
  refine calls_W (vs := [_, _]) Try.func34 rfl (by kernel_rfl) rfl ?_
  (repeat (first | with_reducible refine W.seq ?_ | with_reducible refine Ops.nil ?_ | with_reducible refine W.region ?_ | refine z_p (kk := ?_) | refine z_a (kk := ?_) | refine z_y (kk := ?_) | refine z_n (kk := ?_) | refine z_u (kk := ?_) | with_reducible refine W.skip ?_ | with_reducible refine W.endb ?_ | with_reducible refine W.block ?_ | refine W.exit rfl ?_ | refine z_l (kk := ?_) | refine z_f (kk := ?_) | refine z_M (kk := ?_) | refine z_m (kk := ?_) | refine z_e (kk := ?_) | refine z_E (kk := ?_) | refine z_d (kk := ?_)))
  refine Ops.cv rfl rfl rfl rfl rfl rfl ?_
  (repeat (first | with_reducible refine W.seq ?_ | with_reducible refine Ops.nil ?_ | with_reducible refine W.region ?_ | refine z_p (kk := ?_) | refine z_a (kk := ?_) | refine z_y (kk := ?_) | refine z_n (kk := ?_) | refine z_u (kk := ?_) | with_reducible refine W.skip ?_ | with_reducible refine W.endb ?_ | with_reducible refine W.block ?_ | refine W.exit rfl ?_ | refine z_l (kk := ?_) | refine z_f (kk := ?_) | refine z_M (kk := ?_) | refine z_m (kk := ?_) | refine z_e (kk := ?_) | refine z_E (kk := ?_) | refine z_d (kk := ?_)))
  refine Ops.cv rfl rfl rfl rfl rfl rfl ?_
  have hn : IntKind.u64.wrap n = n := by rw [wrap_u]; omega
  refine Ops.remK rfl rfl rfl rfl rfl (by rw [hn]; omega) ?_
  refine Ops.cv rfl rfl rfl rfl rfl rfl ?_
  (repeat (first | with_reducible refine W.seq ?_ | with_reducible refine Ops.nil ?_ | with_reducible refine W.region ?_ | refine z_p (kk := ?_) | refine z_a (kk := ?_) | refine z_y (kk := ?_) | refine z_n (kk := ?_) | refine z_u (kk := ?_) | with_reducible refine W.skip ?_ | with_reducible refine W.endb ?_ | with_reducible refine W.block ?_ | refine W.exit rfl ?_ | refine z_l (kk := ?_) | refine z_f (kk := ?_) | refine z_M (kk := ?_) | refine z_m (kk := ?_) | refine z_e (kk := ?_) | refine z_E (kk := ?_) | refine z_d (kk := ?_)))
  refine W.fret rfl ⟨?_, rfl⟩
  have hb := modM_bd x h0
  show Value.int .i64 _ = _
  rw [hn, wrap_u, Int.tmod_eq_emod_of_nonneg (Int.emod_nonneg _ (by omega))]
  exact congrArg _ (wrap_i hb.1 (Int.lt_trans hb.2 h1))
def pickL (p : Nat → Bool) (n : Nat) : List Int := ((List.range n).filter p).map fun (i : Nat) => (i : Int)
theorem pickL_succ (p : Nat → Bool) (n : Nat) : pickL p (n + 1) = pickL p n ++ if p n then [(n : Int)] else [] := by
  unfold pickL
  rw [List.range_succ, List.filter_append, List.map_append]
  congr 1
  by_cases h : p n <;> simp [h]
theorem pickL_len (p : Nat → Bool) (n : Nat) : (pickL p n).length ≤ n := by
  unfold pickL
  rw [List.length_map]
  exact Nat.le_trans (List.length_filter_le _ _) (by simp)
theorem leafB_len (l : List Nd) (i : Int) : leafB l i = (((kid l i).length : Int) == 0) := by
  unfold leafB
  cases kid l i with
  | nil => rfl
  | cons a r => simp; omega
def someP (l : List Nd) (os : List Int) (i : Nat) : Bool := leafB l i && decide (i < os.length) && (modM (os.getD i 0) 2 == 1)
theorem some_c {w : World} {v ov : Value} {l : List Nd} {os : List Int} (hT : TreeM w v l) (hn : l.length ≤ 60) (ho : SlI w ov os) :
    Calls Try.prog 36 #[v, ov] w (Ret fun r w' => FInv w w' r (pickL (someP l os) l.length)) := by
  obtain ⟨A, c, rfl⟩ := hT.sl
  have hol := Sl.len ho
  obtain ⟨A2, c2, rfl⟩ := Sl.sl ho
  refine calls_W (vs := [_, _]) Try.func36 rfl (by kernel_rfl) rfl ?_
  (repeat (first | with_reducible refine W.seq ?_ | with_reducible refine Ops.nil ?_ | with_reducible refine W.region ?_ | refine z_p (kk := ?_) | refine z_a (kk := ?_) | refine z_y (kk := ?_) | refine z_n (kk := ?_) | refine z_u (kk := ?_) | with_reducible refine W.skip ?_ | with_reducible refine W.endb ?_ | with_reducible refine W.block ?_ | refine W.exit rfl ?_ | refine z_l (kk := ?_) | refine z_f (kk := ?_) | refine z_M (kk := ?_) | refine z_m (kk := ?_) | refine z_e (kk := ?_) | refine z_E (kk := ?_) | refine z_d (kk := ?_)))
  refine W.loop (fun m ρ w3 => ∃ (j : Nat) (lv : Value), m = l.length - j ∧ j ≤ l.length ∧ ρ = [(0, .slice A l.length c), (1, .slice A2 os.length c2), (5, lv), (6, .int .i64 j)] ∧ FInv w w3 lv (pickL (someP l os) j))
    ⟨_, _, ⟨0, _, rfl, Nat.zero_le _, rfl, FInv.nil (Below.refl _ _)⟩, (by repeat (first | exact trivial | refine And.intro rfl ?_))⟩ ?_
  rintro m ρ w3 ⟨j, lv, rfl, hj, rfl, hI⟩
  have hb3 := hI.bel
  have ho3 := Sl.below ho hb3
  have hpl := pickL_len (someP l os) j
  (repeat (first | with_reducible refine W.seq ?_ | with_reducible refine Ops.nil ?_ | with_reducible refine W.region ?_ | refine z_p (kk := ?_) | refine z_a (kk := ?_) | refine z_y (kk := ?_) | refine z_n (kk := ?_) | refine z_u (kk := ?_) | with_reducible refine W.skip ?_ | with_reducible refine W.endb ?_ | with_reducible refine W.block ?_ | refine W.exit rfl ?_ | refine z_l (kk := ?_) | refine z_f (kk := ?_) | refine z_M (kk := ?_) | refine z_m (kk := ?_) | refine z_e (kk := ?_) | refine z_E (kk := ?_) | refine z_d (kk := ?_)))
  refine W.cond rfl (fun hc => ?_) (fun hc => ?_)
  · have hlt : j < l.length := by simp at hc; omega
    (repeat (first | with_reducible refine W.seq ?_ | with_reducible refine Ops.nil ?_ | with_reducible refine W.region ?_ | refine z_p (kk := ?_) | refine z_a (kk := ?_) | refine z_y (kk := ?_) | refine z_n (kk := ?_) | refine z_u (kk := ?_) | with_reducible refine W.skip ?_ | with_reducible refine W.endb ?_ | with_reducible refine W.block ?_ | refine W.exit rfl ?_ | refine z_l (kk := ?_) | refine z_f (kk := ?_) | refine z_M (kk := ?_) | refine z_m (kk := ?_) | refine z_e (kk := ?_) | refine z_E (kk := ?_) | refine z_d (kk := ?_)))
    refine Ops.rdK rfl rfl rfl rfl rfl rfl rfl rfl rfl rfl rfl rfl rfl rfl rfl hT hb3 (by omega) (by omega) (fun cv p q hcv => ?_)
    obtain ⟨Ac, cc, rfl⟩ := Sl.sl hcv
    refine Ops.cut (fun ρ w' => ∃ b : Bool, ρ = [(0, .slice A l.length c), (1, .slice A2 os.length c2), (5, lv), (6, .int .i64 j), (33, .bool b)] ∧ w' = w3 ∧ b = someP l os j) ?_ ?_
    · (repeat' (first | with_reducible refine W.seq ?_ | with_reducible refine Ops.nil ?_ | with_reducible refine W.region ?_ | refine z_p (kk := ?_) | refine z_a (kk := ?_) | refine z_y (kk := ?_) | refine z_n (kk := ?_) | refine z_u (kk := ?_) | with_reducible refine W.skip ?_ | with_reducible refine W.endb ?_ | with_reducible refine W.block ?_ | refine W.exit rfl ?_ | refine z_l (kk := ?_) | refine z_f (kk := ?_) | refine z_M (kk := ?_) | refine z_m (kk := ?_) | refine z_e (kk := ?_) | refine z_E (kk := ?_) | refine z_d (kk := ?_) | refine Ops.gdT rfl rfl rfl rfl (fun _ => ?_) (fun _ => ?_) | refine Ops.gdF rfl rfl rfl rfl (fun _ => ?_) (fun _ => ?_) | refine Ops.callS rfl rfl rfl rfl rfl (mod_c _ _ _ (by decide) (by decide)) ?_ | (refine Ops.rdSg (enc := Value.int .i64) (z := (0 : Int)) rfl rfl rfl rfl rfl rfl rfl rfl rfl rfl rfl rfl rfl rfl ho3 (by omega) (by rename_i hh; simp at hh; omega) (fun p => ?_))))
      all_goals refine W.endl ⟨_, ⟨_, rfl, rfl, ?_⟩, (by repeat (first | exact trivial | refine And.intro rfl ?_))⟩
      all_goals clear ho ho3 hI hT hcv
      · rename_i h1 h2
        unfold someP
        rw [leafB_len, h1, show decide (j < os.length) = true by simpa using h2]
        rfl
      · rename_i h1 h2
        unfold someP
        rw [leafB_len, h1, show decide (j < os.length) = false by simpa using h2]
        rfl
      · rename_i h1
        unfold someP
        rw [leafB_len, h1]
        rfl
    · rintro ρ w4 ⟨b, rfl, rfl, hb⟩
      (repeat (first | with_reducible refine W.seq ?_ | with_reducible refine Ops.nil ?_ | with_reducible refine W.region ?_ | refine z_p (kk := ?_) | refine z_a (kk := ?_) | refine z_y (kk := ?_) | refine z_n (kk := ?_) | refine z_u (kk := ?_) | with_reducible refine W.skip ?_ | with_reducible refine W.endb ?_ | with_reducible refine W.block ?_ | refine W.exit rfl ?_ | refine z_l (kk := ?_) | refine z_f (kk := ?_) | refine z_M (kk := ?_) | refine z_m (kk := ?_) | refine z_e (kk := ?_) | refine z_E (kk := ?_) | refine z_d (kk := ?_)))
      have hs := pickL_succ (someP l os) j
      rw [← hb] at hs
      refine W.cond rfl (fun hc2 => ?_) (fun hc2 => ?_)
      · rw [hc2, if_pos rfl] at hs
        (repeat (first | with_reducible refine W.seq ?_ | with_reducible refine Ops.nil ?_ | with_reducible refine W.region ?_ | refine z_p (kk := ?_) | refine z_a (kk := ?_) | refine z_y (kk := ?_) | refine z_n (kk := ?_) | refine z_u (kk := ?_) | with_reducible refine W.skip ?_ | with_reducible refine W.endb ?_ | with_reducible refine W.block ?_ | refine W.exit rfl ?_ | refine z_l (kk := ?_) | refine z_f (kk := ?_) | refine z_M (kk := ?_) | refine z_m (kk := ?_) | refine z_e (kk := ?_) | refine z_E (kk := ?_) | refine z_d (kk := ?_)))
        refine Ops.push rfl rfl rfl rfl rfl rfl rfl rfl rfl rfl rfl rfl (fun _ => rfl) rfl hI.own (by omega) (fun lv' p w5 ho5 k5 hn5 => ?_)
        have hI5 := hI.push ho5 k5 hn5
        rw [← hs] at hI5
        (repeat (first | with_reducible refine W.seq ?_ | with_reducible refine Ops.nil ?_ | with_reducible refine W.region ?_ | refine z_p (kk := ?_) | refine z_a (kk := ?_) | refine z_y (kk := ?_) | refine z_n (kk := ?_) | refine z_u (kk := ?_) | with_reducible refine W.skip ?_ | with_reducible refine W.endb ?_ | with_reducible refine W.block ?_ | refine W.exit rfl ?_ | refine z_l (kk := ?_) | refine z_f (kk := ?_) | refine z_M (kk := ?_) | refine z_m (kk := ?_) | refine z_e (kk := ?_) | refine z_E (kk := ?_) | refine z_d (kk := ?_)))
        exact W.endl ⟨_, _, ⟨⟨j + 1, _, rfl, by omega, rfl, hI5⟩, by omega⟩, (by repeat (first | exact trivial | refine And.intro rfl ?_))⟩
      · rw [hc2, if_neg (by simp), List.append_nil] at hs
        rw [← hs] at hI
        (repeat (first | with_reducible refine W.seq ?_ | with_reducible refine Ops.nil ?_ | with_reducible refine W.region ?_ | refine z_p (kk := ?_) | refine z_a (kk := ?_) | refine z_y (kk := ?_) | refine z_n (kk := ?_) | refine z_u (kk := ?_) | with_reducible refine W.skip ?_ | with_reducible refine W.endb ?_ | with_reducible refine W.block ?_ | refine W.exit rfl ?_ | refine z_l (kk := ?_) | refine z_f (kk := ?_) | refine z_M (kk := ?_) | refine z_m (kk := ?_) | refine z_e (kk := ?_) | refine z_E (kk := ?_) | refine z_d (kk := ?_)))
        exact W.endl ⟨_, _, ⟨⟨j + 1, _, rfl, by omega, rfl, hI⟩, by omega⟩, (by repeat (first | exact trivial | refine And.intro rfl ?_))⟩
  · have hlt : j = l.length := by simp at hc; omega
    subst hlt
    (repeat (first | with_reducible refine W.seq ?_ | with_reducible refine Ops.nil ?_ | with_reducible refine W.region ?_ | refine z_p (kk := ?_) | refine z_a (kk := ?_) | refine z_y (kk := ?_) | refine z_n (kk := ?_) | refine z_u (kk := ?_) | with_reducible refine W.skip ?_ | with_reducible refine W.endb ?_ | with_reducible refine W.block ?_ | refine W.exit rfl ?_ | refine z_l (kk := ?_) | refine z_f (kk := ?_) | refine z_M (kk := ?_) | refine z_m (kk := ?_) | refine z_e (kk := ?_) | refine z_E (kk := ?_) | refine z_d (kk := ?_)))
    exact W.fret rfl hI
end Go.Proofs.Ytdiljpnfochndaa
namespace Go.Proofs.Ytdiljpnfochndaa
open Go Go.RowKit Go.Proofs.Ytdiljpnfochndaa.VW
open Go.Proofs.Ytdiljpnfochndaa.HP (Nd kid wor leafB rd modM modM_bd chM chM_len rounds tameM tameN addKid tameM_len tameM_at)
attribute [local irreducible] W Ops
/-- Slices of numbers of the call's own, each in its own block, in a slice of the call's own. -/
structure LL (w0 w : World) (ov : Value) (c : List (List Int)) (svs : List Value) : Prop where
  bel : Below w0.heap.size w0 w
  ge : ∀ k, ov.ownBlock = some k → w0.heap.size ≤ k
  row : w.ownsRow 0 24 1 ov c.length svs
  own : ∀ j, j < c.length → w.ownsRow 0 3 1 (svs.getD j undef) (c.getD j []).length ((c.getD j []).map (Value.int .i64))
  sep : ∀ j, j < c.length → ∀ k, (svs.getD j undef).ownBlock = some k → w0.heap.size ≤ k ∧ ov.ownBlock ≠ some k
  two : ∀ j j', j < c.length → j' < c.length → j ≠ j' → ∀ k, (svs.getD j undef).ownBlock = some k → (svs.getD j' undef).ownBlock ≠ some k
theorem LL.len {w0 w : World} {ov : Value} {c : List (List Int)} {svs : List Value} (h : LL w0 w ov c svs) : svs.length = c.length := by have := h.row.1; omega
theorem LL.kp {w0 w w' : World} {ov : Value} {c : List (List Int)} {svs : List Value} {S : Nat → Prop} (h : LL w0 w ov c svs) (k : Kp S w w') (hs : ∀ i, S i → w0.heap.size ≤ i ∧ ov.ownBlock ≠ some i ∧ ∀ j, j < c.length → (svs.getD j undef).ownBlock ≠ some i) : LL w0 w' ov c svs :=
  ⟨Below.at_ h.bel k (fun i hi => (hs i hi).1), h.ge, own_kp h.row k (fun i hi e => (hs i e).2.1 hi), fun j hj => own_kp (h.own j hj) k (fun i hi e => (hs i e).2.2 j hj hi), h.sep, h.two⟩
theorem LL.fresh {w0 w w' : World} {ov : Value} {c : List (List Int)} {svs : List Value} {S : Nat → Prop} (h : LL w0 w ov c svs) (k : Kp S w w') (hs : ∀ i, S i → w.heap.size ≤ i) : LL w0 w' ov c svs :=
  h.kp k fun i hi => ⟨by have := h.bel.size; have := hs i hi; omega, fun e => by have := (h.row.lt i e).2; have := hs i hi; omega, fun j hj e => by have := ((h.own j hj).lt i e).2; have := hs i hi; omega⟩
/-- An empty one more. -/
theorem LL.pushNil {w0 w w' : World} {ov ov' : Value} {c : List (List Int)} {svs : List Value} (h : LL w0 w ov c svs) (ho : w'.ownsRow 0 24 1 ov' (c.length + 1) (svs ++ [.slice none 0 0])) (k : Kp (fun i => ov.ownBlock = some i) w w')
    (hn : ∀ i, ov'.ownBlock = some i → ov.ownBlock = some i ∨ w.heap.size ≤ i) : LL w0 w' ov' (c ++ [[]]) (svs ++ [.slice none 0 0]) := by
  have hl := h.len
  have hg : ∀ j, j < c.length → (svs ++ [Value.slice none 0 0]).getD j undef = svs.getD j undef ∧ (c ++ [[]]).getD j [] = c.getD j [] := fun j hj => ⟨app_getD (by omega), app_getD hj⟩
  have hlast : (svs ++ [Value.slice none 0 0]).getD c.length undef = .slice none 0 0 ∧ (c ++ [[]]).getD c.length [] = [] := ⟨app_last hl.symm, app_last rfl⟩
  have hb : ∀ i, ov'.ownBlock = some i → w0.heap.size ≤ i := fun i hi => by
    rcases hn i hi with e | e
    · exact h.ge i e
    · have := h.bel.size; omega
  refine ⟨Below.at_ h.bel k (fun i hi => h.ge i hi), hb, by simpa using ho, fun j hj => ?_, fun j hj i hi => ?_, fun j j' hj hj' hne i hi => ?_⟩
  · simp at hj
    by_cases e : j = c.length
    · subst e
      rw [hlast.1, hlast.2]
      exact own_nil _ _ _
    · have hj' : j < c.length := by omega
      rw [(hg j hj').1, (hg j hj').2]
      exact own_kp (h.own j hj') k (fun i hi e => (h.sep j hj' i hi).2 e)
  · simp at hj
    by_cases e : j = c.length
    · subst e
      rw [hlast.1] at hi
      simp [Value.ownBlock] at hi
    · have hj' : j < c.length := by omega
      rw [(hg j hj').1] at hi
      refine ⟨(h.sep j hj' i hi).1, fun e => ?_⟩
      rcases hn i e with e2 | e2
      · exact (h.sep j hj' i hi).2 e2
      · have := ((h.own j hj').lt i hi).2; omega
  · simp at hj hj'
    by_cases e : j = c.length
    · subst e
      rw [hlast.1] at hi
      simp [Value.ownBlock] at hi
    · by_cases e' : j' = c.length
      · subst e'
        rw [hlast.1]
        simp [Value.ownBlock]
      · rw [(hg j (by omega)).1] at hi
        rw [(hg j' (by omega)).1]
        exact h.two j j' (by omega) (by omega) hne i hi
/-- A number more in one of them. -/
theorem LL.grow {w0 w w1 w' : World} {ov lv' : Value} {c : List (List Int)} {svs : List Value} {p : Nat} {x : Int} (h : LL w0 w ov c svs) (hp : p < c.length)
    (ho : w1.ownsRow 0 3 1 lv' ((c.getD p []).length + 1) ((c.getD p []).map (Value.int .i64) ++ [.int .i64 x])) (k : Kp (fun i => (svs.getD p undef).ownBlock = some i) w w1)
    (hn : ∀ i, lv'.ownBlock = some i → (svs.getD p undef).ownBlock = some i ∨ w.heap.size ≤ i) (ho' : w'.ownsRow 0 24 1 ov c.length (svs.set p lv')) (k' : Kp (fun i => ov.ownBlock = some i) w1 w') : LL w0 w' ov (c.set p (c.getD p [] ++ [x])) (svs.set p lv') := by
  have hl := h.len
  have hsep : ∀ i, lv'.ownBlock = some i → w0.heap.size ≤ i ∧ ov.ownBlock ≠ some i := fun i hi => by
    rcases hn i hi with e | e
    · exact h.sep p hp i e
    · have := h.bel.size; exact ⟨by omega, fun e2 => by have := (h.row.lt i e2).2; omega⟩
  refine ⟨Below.at_ (Below.at_ h.bel k (fun i hi => (h.sep p hp i hi).1)) k' (fun i hi => h.ge i hi), h.ge, by simpa using ho', fun j hj => ?_, fun j hj i hi => ?_, fun j j' hj hj' hne i hi => ?_⟩
  · simp at hj
    by_cases e : p = j
    · subst e
      rw [lgetD_set_eq (by omega), lgetD_set_eq (by omega)]
      have := own_kp ho k' (fun i hi e => (hsep i hi).2 e)
      simpa using this
    · rw [lgetD_set_ne e, lgetD_set_ne e]
      exact own_kp (own_kp (h.own j hj) k (fun i hi e2 => h.two p j hp hj e i e2 hi)) k' (fun i hi e2 => (h.sep j hj i hi).2 e2)
  · simp at hj
    by_cases e : p = j
    · subst e
      rw [lgetD_set_eq (by omega)] at hi
      exact hsep i hi
    · rw [lgetD_set_ne e] at hi
      exact h.sep j hj i hi
  · simp at hj hj'
    by_cases e : p = j
    · subst e
      rw [lgetD_set_eq (by omega)] at hi
      rw [lgetD_set_ne hne]
      rcases hn i hi with e2 | e2
      · exact h.two p j' hp hj' hne i e2
      · intro e3; have := ((h.own j' hj').lt i e3).2; omega
    · rw [lgetD_set_ne e] at hi
      by_cases e' : p = j'
      · subst e'
        rw [lgetD_set_eq (by omega)]
        intro e3
        rcases hn i e3 with e4 | e4
        · exact h.two j p hj hp hne i hi e4
        · have := ((h.own j hj).lt i hi).2; omega
      · rw [lgetD_set_ne e']
        exact h.two j j' hj hj' hne i hi
end Go.Proofs.Ytdiljpnfochndaa
namespace Go.Proofs.Ytdiljpnfochndaa
open Go Go.RowKit Go.Proofs.Ytdiljpnfochndaa.VW
open Go.Proofs.Ytdiljpnfochndaa.HP (Nd kid wor leafB rd modM modM_bd chM chM_len rounds tameM tameN addKid tameM_len tameM_at)
attribute [local irreducible] W Ops
theorem chM_sum (ps : List Int) : ∀ i j, ((chM ps i).getD j []).length ≤ i
  | 0, j => by
    cases j with
    | zero => simp [chM]
    | succ j => simp [chM]
  | i + 1, j => by
    have hp : (modM (ps.getD i 0) (i + 1)).toNat < (chM ps i).length := by
      have := modM_bd (ps.getD i 0) (n := (i : Int) + 1) (by omega)
      rw [chM_len]; omega
    have hl := chM_len ps i
    simp only [chM]
    by_cases e : j = (modM (ps.getD i 0) (i + 1)).toNat
    · subst e
      rw [Go.Proofs.Ytdiljpnfochndaa.HP.addKid_p hp, List.length_append, List.length_singleton]
      have := chM_sum ps i (modM (ps.getD i 0) (i + 1)).toNat
      omega
    · by_cases hj : j < (chM ps i).length
      · rw [Go.Proofs.Ytdiljpnfochndaa.HP.addKid_ne e hj]
        have := chM_sum ps i j
        omega
      · by_cases hj2 : j = (chM ps i).length
        · subst hj2
          rw [Go.Proofs.Ytdiljpnfochndaa.HP.addKid_new hp]
          simp
        · rw [List.getD_eq_getElem?_getD, List.getElem?_eq_none (by rw [Go.Proofs.Ytdiljpnfochndaa.HP.addKid_len]; omega)]
          simp
theorem gapp {α : Type} {xs ys : List α} {i : Nat} {d : α} (h : i < xs.length) : (xs ++ ys).getD i d = xs.getD i d := by rw [List.getD_eq_getElem?_getD, List.getElem?_append_left h, ← List.getD_eq_getElem?_getD]
set_option maxRecDepth 100000 in
theorem tame_c {w : World} {pv wv : Value} {ps ws : List Int} {most : Nat} (hp : SlI w pv ps) (hw : SlI w wv ws) (h1 : 1 ≤ most) (hm : most ≤ 60) :
    Calls Try.prog 33 #[pv, wv, .int .i64 most] w (Ret fun r w' => TreeM w' r (tameM ps ws most) ∧ Below w.heap.size w w') := by
  have hpl := Sl.len hp
  have hwl := Sl.len hw
  obtain ⟨Ap, cp, rfl⟩ := Sl.sl hp
  obtain ⟨Aw, cw, rfl⟩ := Sl.sl hw
  refine calls_W (vs := [_, _, _]) Try.func33 rfl (by kernel_rfl) rfl ?_
  (repeat (first | with_reducible refine W.seq ?_ | with_reducible refine Ops.nil ?_ | with_reducible refine W.region ?_ | refine z_p (kk := ?_) | refine z_a (kk := ?_) | refine z_y (kk := ?_) | refine z_n (kk := ?_) | refine z_u (kk := ?_) | with_reducible refine W.skip ?_ | with_reducible refine W.endb ?_ | with_reducible refine W.block ?_ | refine W.exit rfl ?_ | refine z_l (kk := ?_) | refine z_f (kk := ?_) | refine z_M (kk := ?_) | refine z_m (kk := ?_) | refine z_e (kk := ?_) | refine z_E (kk := ?_) | refine z_d (kk := ?_)))
  refine Ops.push rfl rfl rfl rfl rfl rfl rfl rfl rfl rfl rfl rfl (fun _ => rfl) rfl (own_nil w 24 1) (by omega) (fun ov p w1 ho1 k1 hn1 => ?_)
  have hL1 : LL w w1 ov (chM ps 0) [.slice none 0 0] := by
    have h0 : LL w w (.slice none 0 0) [] [] := ⟨Below.refl _ _, fun k hk => by simp [Value.ownBlock] at hk, own_nil _ _ _, fun j hj => by simp at hj, fun j hj => by simp at hj, fun j j' hj => by simp at hj⟩
    exact h0.pushNil ho1 k1 hn1
  (repeat (first | with_reducible refine W.seq ?_ | with_reducible refine Ops.nil ?_ | with_reducible refine W.region ?_ | refine z_p (kk := ?_) | refine z_a (kk := ?_) | refine z_y (kk := ?_) | refine z_n (kk := ?_) | refine z_u (kk := ?_) | with_reducible refine W.skip ?_ | with_reducible refine W.endb ?_ | with_reducible refine W.block ?_ | refine W.exit rfl ?_ | refine z_l (kk := ?_) | refine z_f (kk := ?_) | refine z_M (kk := ?_) | refine z_m (kk := ?_) | refine z_e (kk := ?_) | refine z_E (kk := ?_) | refine z_d (kk := ?_)))
  refine W.loop (fun m ρ w3 => ∃ (j : Nat) (ov : Value) (svs : List Value), m = rounds ps most - j ∧ j ≤ rounds ps most ∧ ρ = [(0, .slice Ap ps.length cp), (1, .slice Aw ws.length cw), (2, .int .i64 most), (7, ov), (8, .int .i64 (j + 1))] ∧ LL w w3 ov (chM ps j) svs)
    ⟨_, _, ⟨0, _, _, rfl, Nat.zero_le _, rfl, hL1⟩, (by repeat (first | exact trivial | refine And.intro rfl ?_))⟩ ?_
  clear hL1 hn1 k1 ho1
  rintro m ρ w3 ⟨j, ov, svs, rfl, hj, rfl, hL⟩
  have hrd : rounds ps most = min (most - 1) ps.length := rfl
  (repeat (first | with_reducible refine W.seq ?_ | with_reducible refine Ops.nil ?_ | with_reducible refine W.region ?_ | refine z_p (kk := ?_) | refine z_a (kk := ?_) | refine z_y (kk := ?_) | refine z_n (kk := ?_) | refine z_u (kk := ?_) | with_reducible refine W.skip ?_ | with_reducible refine W.endb ?_ | with_reducible refine W.block ?_ | refine W.exit rfl ?_ | refine z_l (kk := ?_) | refine z_f (kk := ?_) | refine z_M (kk := ?_) | refine z_m (kk := ?_) | refine z_e (kk := ?_) | refine z_E (kk := ?_) | refine z_d (kk := ?_)))
  refine Ops.cut (fun ρ w' => ∃ b : Bool, ρ = [(0, .slice Ap ps.length cp), (1, .slice Aw ws.length cw), (2, .int .i64 most), (7, ov), (8, .int .i64 (j + 1)), (25, .bool b)] ∧ w' = w3 ∧ (b = true ↔ j < rounds ps most)) ?_ ?_
  · (repeat' (first | with_reducible refine W.seq ?_ | with_reducible refine Ops.nil ?_ | with_reducible refine W.region ?_ | refine z_p (kk := ?_) | refine z_a (kk := ?_) | refine z_y (kk := ?_) | refine z_n (kk := ?_) | refine z_u (kk := ?_) | with_reducible refine W.skip ?_ | with_reducible refine W.endb ?_ | with_reducible refine W.block ?_ | refine W.exit rfl ?_ | refine z_l (kk := ?_) | refine z_f (kk := ?_) | refine z_M (kk := ?_) | refine z_m (kk := ?_) | refine z_e (kk := ?_) | refine z_E (kk := ?_) | refine z_d (kk := ?_) | refine Ops.gdT rfl rfl rfl rfl (fun _ => ?_) (fun _ => ?_) | refine Ops.gdF rfl rfl rfl rfl (fun _ => ?_) (fun _ => ?_)))
    all_goals refine W.endl ⟨_, ⟨_, rfl, rfl, ?_⟩, (by repeat (first | exact trivial | refine And.intro rfl ?_))⟩
    · rename_i h; simp at h ⊢; omega
    · rename_i h; simp at h ⊢; omega
  · rintro ρ w4 ⟨b, rfl, rfl, hb⟩
    refine W.cond rfl (fun hc => ?_) (fun hc => ?_)
    · have hlt := hb.1 hc
      have hmp := modM_bd (ps.getD j 0) (n := (j : Int) + 1) (by omega)
      have hcl := chM_len ps j
      have hadd : chM ps (j + 1) = ((chM ps j) ++ [[]]).set (modM (ps.getD j 0) (j + 1)).toNat ((chM ps j).getD (modM (ps.getD j 0) (j + 1)).toNat [] ++ [((j : Int) + 1)]) := by
        simp only [chM, addKid, hcl]
        rfl
      have hsum := chM_sum ps j (modM (ps.getD j 0) (j + 1)).toNat
      (repeat (first | with_reducible refine W.seq ?_ | with_reducible refine Ops.nil ?_ | with_reducible refine W.region ?_ | refine z_p (kk := ?_) | refine z_a (kk := ?_) | refine z_y (kk := ?_) | refine z_n (kk := ?_) | refine z_u (kk := ?_) | with_reducible refine W.skip ?_ | with_reducible refine W.endb ?_ | with_reducible refine W.block ?_ | refine W.exit rfl ?_ | refine z_l (kk := ?_) | refine z_f (kk := ?_) | refine z_M (kk := ?_) | refine z_m (kk := ?_) | refine z_e (kk := ?_) | refine z_E (kk := ?_) | refine z_d (kk := ?_)))
      refine Ops.rdS (enc := Value.int .i64) (z := (0 : Int)) rfl rfl rfl rfl rfl rfl rfl rfl rfl rfl rfl (Sl.below hp hL.bel) (by omega) (by omega) (fun p => ?_)
      rw [show ((j : Int) + 1 - 1).toNat = j by omega]
      (repeat (first | with_reducible refine W.seq ?_ | with_reducible refine Ops.nil ?_ | with_reducible refine W.region ?_ | refine z_p (kk := ?_) | refine z_a (kk := ?_) | refine z_y (kk := ?_) | refine z_n (kk := ?_) | refine z_u (kk := ?_) | with_reducible refine W.skip ?_ | with_reducible refine W.endb ?_ | with_reducible refine W.block ?_ | refine W.exit rfl ?_ | refine z_l (kk := ?_) | refine z_f (kk := ?_) | refine z_M (kk := ?_) | refine z_m (kk := ?_) | refine z_e (kk := ?_) | refine z_E (kk := ?_) | refine z_d (kk := ?_)))
      refine Ops.callS rfl rfl rfl rfl rfl (mod_c _ _ _ (by omega) (by omega)) ?_
      generalize modM (ps.getD j 0) (j + 1) = pp at *
      obtain ⟨q, rfl⟩ := Int.eq_ofNat_of_zero_le hmp.1
      (repeat (first | with_reducible refine W.seq ?_ | with_reducible refine Ops.nil ?_ | with_reducible refine W.region ?_ | refine z_p (kk := ?_) | refine z_a (kk := ?_) | refine z_y (kk := ?_) | refine z_n (kk := ?_) | refine z_u (kk := ?_) | with_reducible refine W.skip ?_ | with_reducible refine W.endb ?_ | with_reducible refine W.block ?_ | refine W.exit rfl ?_ | refine z_l (kk := ?_) | refine z_f (kk := ?_) | refine z_M (kk := ?_) | refine z_m (kk := ?_) | refine z_e (kk := ?_) | refine z_E (kk := ?_) | refine z_d (kk := ?_)))
      refine Ops.push rfl rfl rfl rfl rfl rfl rfl rfl rfl rfl rfl rfl (fun _ => rfl) rfl hL.row (by omega) (fun ov2 p2 w5 ho5 k5 hn5 => ?_)
      have hL5 := hL.pushNil ho5 k5 hn5
      have hcl5 : (chM ps j ++ [[]]).length = j + 2 := by simp [hcl]
      have hgq : (chM ps j ++ [[]]).getD q [] = (chM ps j).getD q [] := app_getD (by omega)
      have hrow5 := hL5.row
      rw [hcl5] at hrow5
      obtain ⟨g, cap, cur, rfl, hBd, hszd⟩ := own_blk hrow5 (by omega)
      have hcell := own_cell hrow5 (a := q * 1) (b := 0) (by omega) (by omega)
      (repeat (first | with_reducible refine W.seq ?_ | with_reducible refine Ops.nil ?_ | with_reducible refine W.region ?_ | refine z_p (kk := ?_) | refine z_a (kk := ?_) | refine z_y (kk := ?_) | refine z_n (kk := ?_) | refine z_u (kk := ?_) | with_reducible refine W.skip ?_ | with_reducible refine W.endb ?_ | with_reducible refine W.block ?_ | refine W.exit rfl ?_ | refine z_l (kk := ?_) | refine z_f (kk := ?_) | refine z_M (kk := ?_) | refine z_m (kk := ?_) | refine z_e (kk := ?_) | refine z_E (kk := ?_) | refine z_d (kk := ?_)))
      refine Ops.idx rfl rfl rfl rfl rfl rfl rfl (by omega) (by omega) (Ops.ld rfl rfl rfl rfl rfl (v := (svs ++ [Value.slice none 0 0]).getD q undef) (by simpa [add_lit] using hcell) ?_)
      have hownq := hL5.own q (by omega)
      rw [hgq] at hownq
      generalize hlvq : (svs ++ [Value.slice none 0 0]).getD q undef = lv at *
      (repeat (first | with_reducible refine W.seq ?_ | with_reducible refine Ops.nil ?_ | with_reducible refine W.region ?_ | refine z_p (kk := ?_) | refine z_a (kk := ?_) | refine z_y (kk := ?_) | refine z_n (kk := ?_) | refine z_u (kk := ?_) | with_reducible refine W.skip ?_ | with_reducible refine W.endb ?_ | with_reducible refine W.block ?_ | refine W.exit rfl ?_ | refine z_l (kk := ?_) | refine z_f (kk := ?_) | refine z_M (kk := ?_) | refine z_m (kk := ?_) | refine z_e (kk := ?_) | refine z_E (kk := ?_) | refine z_d (kk := ?_)))
      simp only [Int.toNat_natCast] at hsum
      refine Ops.push rfl rfl rfl rfl rfl rfl rfl rfl rfl rfl rfl rfl (fun _ => rfl) rfl hownq (by omega) (fun lv2 p3 w6 ho6 k6 hn6 => ?_)
      have hB6 : Blk w6 g cur 24 := hBd.kp k6 (fun e => (hL5.sep q (by omega) g (by rw [hlvq]; exact e)).2 rfl)
      have hrow6 := own_kp hrow5 k6 (fun i hi e => (hL5.sep q (by omega) i (by rw [hlvq]; exact e)).2 hi)
      have hone2 : lv2.oneCell' = true := by obtain ⟨A, c, h⟩ := Sl.sl (own_sl (enc := Value.int .i64) (z := (0 : Int)) (xs := (chM ps j).getD q [] ++ [(j : Int) + 1]) (by simpa using ho6)); rw [h]; rfl
      refine Ops.idx rfl rfl rfl rfl rfl rfl rfl (by omega) (by omega) ?_
      rw [add_lit, Nat.zero_add]
      refine Ops.st rfl rfl rfl rfl rfl rfl hone2 hB6 (by simp; omega) (fun w7 hu7 => ?_)
      have hset := own_set hrow6 hB6 hu7
      have hL7 : LL w w7 (.slice (some ⟨g, 0, none⟩) (j + 2) cap) (chM ps (j + 1)) ((svs ++ [Value.slice none 0 0]).set q lv2) := by
        rw [hadd]
        have := hL5.grow (p := q) (x := (j : Int) + 1) (lv' := lv2) (w' := w7) (by omega) (by rw [hgq]; exact ho6) (by rw [hlvq]; exact k6) (by rw [hlvq]; exact hn6) (by rw [hcl5]; simpa using hset) (hu7.kp.mono (fun i _ e => by simp [Value.ownBlock, e]))
        rw [hgq] at this
        exact this
      (repeat (first | with_reducible refine W.seq ?_ | with_reducible refine Ops.nil ?_ | with_reducible refine W.region ?_ | refine z_p (kk := ?_) | refine z_a (kk := ?_) | refine z_y (kk := ?_) | refine z_n (kk := ?_) | refine z_u (kk := ?_) | with_reducible refine W.skip ?_ | with_reducible refine W.endb ?_ | with_reducible refine W.block ?_ | refine W.exit rfl ?_ | refine z_l (kk := ?_) | refine z_f (kk := ?_) | refine z_M (kk := ?_) | refine z_m (kk := ?_) | refine z_e (kk := ?_) | refine z_E (kk := ?_) | refine z_d (kk := ?_)))
      exact W.endl ⟨_, _, ⟨⟨j + 1, _, _, rfl, by omega, rfl, hL7⟩, by omega⟩, (by repeat (first | exact trivial | refine And.intro rfl ?_))⟩
    · have hlt : j = rounds ps most := by have := hb.2; rw [hc] at this; simp at this; omega
      subst hlt
      clear hb hj
      have hcl := chM_len ps (rounds ps most)
      have hrl : rounds ps most ≤ 59 := by omega
      generalize hR : rounds ps most = R at *
      generalize hC : chM ps R = C at *
      have hrow := hL.row
      rw [hcl] at hrow
      obtain ⟨g, cap, rfl, hcell⟩ := own_at hrow (by omega)
      (repeat (first | with_reducible refine W.seq ?_ | with_reducible refine Ops.nil ?_ | with_reducible refine W.region ?_ | refine z_p (kk := ?_) | refine z_a (kk := ?_) | refine z_y (kk := ?_) | refine z_n (kk := ?_) | refine z_u (kk := ?_) | with_reducible refine W.skip ?_ | with_reducible refine W.endb ?_ | with_reducible refine W.block ?_ | refine W.exit rfl ?_ | refine z_l (kk := ?_) | refine z_f (kk := ?_) | refine z_M (kk := ?_) | refine z_m (kk := ?_) | refine z_e (kk := ?_) | refine z_E (kk := ?_) | refine z_d (kk := ?_)))
      refine W.loop (fun m ρ w5 => ∃ (j : Nat) (ov2 : Value) (xs : List Value), m = R + 1 - j ∧ j ≤ R + 1 ∧ ρ = [(1, .slice Aw ws.length cw), (7, .slice (some ⟨g, 0, none⟩) (R + 1) cap), (11, ov2), (12, .int .i64 j)] ∧ Below w4.heap.size w4 w5 ∧
          w5.ownsRow 0 47 2 ov2 j xs ∧ (∀ k, ov2.ownBlock = some k → w4.heap.size ≤ k) ∧ ∀ i, i < j → xs.getD (i * 2) undef = svs.getD i undef ∧ xs.getD (i * 2 + 1) undef = .int .i64 (tameN ps ws C i).2)
        ⟨_, _, ⟨0, _, [], rfl, Nat.zero_le _, rfl, Below.refl _ _, own_nil _ _ _, fun k hk => by simp [Value.ownBlock] at hk, fun i hi => by omega⟩, (by repeat (first | exact trivial | refine And.intro rfl ?_))⟩ ?_
      rintro m ρ w5 ⟨j, ov2, xs, rfl, hj, rfl, hb5, hown2, hge2, hxs⟩
      have hL5 := hL.fresh (Kp.of_below (S := fun _ => False) hb5) (fun _ e => e.elim)
      have hrow5 := hL5.row
      rw [hcl] at hrow5
      (repeat (first | with_reducible refine W.seq ?_ | with_reducible refine Ops.nil ?_ | with_reducible refine W.region ?_ | refine z_p (kk := ?_) | refine z_a (kk := ?_) | refine z_y (kk := ?_) | refine z_n (kk := ?_) | refine z_u (kk := ?_) | with_reducible refine W.skip ?_ | with_reducible refine W.endb ?_ | with_reducible refine W.block ?_ | refine W.exit rfl ?_ | refine z_l (kk := ?_) | refine z_f (kk := ?_) | refine z_M (kk := ?_) | refine z_m (kk := ?_) | refine z_e (kk := ?_) | refine z_E (kk := ?_) | refine z_d (kk := ?_)))
      refine W.cond rfl (fun hc => ?_) (fun hc => ?_)
      · have hlt : j < R + 1 := by simp at hc; omega
        have hxl := hown2.1
        have hci := own_cell hrow5 (a := j * 1) (b := 0) (by omega) (by omega)
        have hownj := hL5.own j (by omega)
        obtain ⟨Aj, cj, hsj⟩ := Sl.sl (own_sl (enc := Value.int .i64) (z := (0 : Int)) hownj)
        have hone : (svs.getD j undef).oneCell' = true := by rw [hsj]; rfl
        have hci' : w5.cell? ⟨g, j, none⟩ = some (.slice Aj (C.getD j []).length cj) := by rw [← hsj]; simpa [add_lit] using hci
        (repeat (first | with_reducible refine W.seq ?_ | with_reducible refine Ops.nil ?_ | with_reducible refine W.region ?_ | refine z_p (kk := ?_) | refine z_a (kk := ?_) | refine z_y (kk := ?_) | refine z_n (kk := ?_) | refine z_u (kk := ?_) | with_reducible refine W.skip ?_ | with_reducible refine W.endb ?_ | with_reducible refine W.block ?_ | refine W.exit rfl ?_ | refine z_l (kk := ?_) | refine z_f (kk := ?_) | refine z_M (kk := ?_) | refine z_m (kk := ?_) | refine z_e (kk := ?_) | refine z_E (kk := ?_) | refine z_d (kk := ?_)))
        refine Ops.idx rfl rfl rfl rfl rfl rfl rfl (by omega) (by omega) (Ops.ld rfl rfl rfl rfl rfl (v := .slice Aj (C.getD j []).length cj) (by simpa [add_lit] using hci') ?_)
        refine Ops.bldG (cs := #[.slice Aj (C.getD j []).length cj, .int .i64 0]) rfl rfl rfl rfl rfl rfl (by kernel_rfl) ?_
        refine Ops.alloc rfl rfl rfl rfl (fun w6 b hM => ?_)
        refine Ops.st2 rfl rfl rfl rfl rfl rfl rfl rfl hM.at_ (fun w7 hu7 => ?_)
        have hbe := hM.r_eq
        have k7 : Kp (fun i => w5.heap.size ≤ i) w5 w7 := (hM.kp.trans hu7.kp).mono (fun i _ e => by rcases e with e | e; exact e.elim; omega)
        have hci7 : w7.cell? ⟨g, j, none⟩ = some (.slice Aj (C.getD j []).length cj) := cell_kp k7 hci' (fun e => by
          have e2 : w5.heap.size ≤ g := e
          have := (hL5.row.lt g rfl).2
          omega)
        have hB7 := hu7.blk
        have hw7 := Sl.below hw (hL5.bel.trans ((Below.at_ (Below.refl _ _) k7 (fun i hi => hi)).mono hL5.bel.size))
        have htn : (tameN ps ws C j).2 = if (C.getD j []).length = 0 ∧ j < ws.length then modM (ws.getD j 0) 201 - 100 else 0 := rfl
        have hmb := modM_bd (ws.getD j 0) (n := 201) (by omega)
        (repeat (first | with_reducible refine W.seq ?_ | with_reducible refine Ops.nil ?_ | with_reducible refine W.region ?_ | refine z_p (kk := ?_) | refine z_a (kk := ?_) | refine z_y (kk := ?_) | refine z_n (kk := ?_) | refine z_u (kk := ?_) | with_reducible refine W.skip ?_ | with_reducible refine W.endb ?_ | with_reducible refine W.block ?_ | refine W.exit rfl ?_ | refine z_l (kk := ?_) | refine z_f (kk := ?_) | refine z_M (kk := ?_) | refine z_m (kk := ?_) | refine z_e (kk := ?_) | refine z_E (kk := ?_) | refine z_d (kk := ?_)))
        refine Ops.idx rfl rfl rfl rfl rfl rfl rfl (by omega) (by omega) (Ops.ld rfl rfl rfl rfl rfl (v := .slice Aj (C.getD j []).length cj) (by simpa [add_lit] using hci7) ?_)
        refine Ops.cut (fun ρ w' => ∃ b' : Bool, ρ = [(1, .slice Aw ws.length cw), (7, .slice (some ⟨g, 0, none⟩) (R + 1) cap), (11, ov2), (12, .int .i64 j), (13, .pointer (some ⟨b, 0, none⟩)), (71, .bool b')] ∧ w' = w7 ∧ (b' = true ↔ (C.getD j []).length = 0 ∧ j < ws.length)) ?_ ?_
        · (repeat' (first | with_reducible refine W.seq ?_ | with_reducible refine Ops.nil ?_ | with_reducible refine W.region ?_ | refine z_p (kk := ?_) | refine z_a (kk := ?_) | refine z_y (kk := ?_) | refine z_n (kk := ?_) | refine z_u (kk := ?_) | with_reducible refine W.skip ?_ | with_reducible refine W.endb ?_ | with_reducible refine W.block ?_ | refine W.exit rfl ?_ | refine z_l (kk := ?_) | refine z_f (kk := ?_) | refine z_M (kk := ?_) | refine z_m (kk := ?_) | refine z_e (kk := ?_) | refine z_E (kk := ?_) | refine z_d (kk := ?_) | refine Ops.gdT rfl rfl rfl rfl (fun _ => ?_) (fun _ => ?_) | refine Ops.gdF rfl rfl rfl rfl (fun _ => ?_) (fun _ => ?_)))
          all_goals refine W.endl ⟨_, ⟨_, rfl, rfl, ?_⟩, (by repeat (first | exact trivial | refine And.intro rfl ?_))⟩
          · rename_i h
            have h' : (C.getD j []).length = 0 := by simpa using h
            simp only [h', true_and, decide_eq_true_eq]
            omega
          · rename_i h
            have h' : ¬ (C.getD j []).length = 0 := by simpa using h
            exact ⟨fun h => by simp at h, fun h => absurd h.1 h'⟩
        · rintro ρ w8 ⟨b', rfl, rfl, hb'⟩
          refine W.cut (fun ρ w' => ∃ z, ρ = [(1, .slice Aw ws.length cw), (7, .slice (some ⟨g, 0, none⟩) (R + 1) cap), (11, ov2), (12, .int .i64 j), (13, .pointer (some ⟨b, 0, none⟩))] ∧ Kp (fun i => w5.heap.size ≤ i) w5 w' ∧ z = (tameN ps ws C j).2 ∧ Blk w' b #[.slice Aj (C.getD j []).length cj, .int .i64 z] 47) ?_ ?_
          · refine W.cond rfl (fun hc => ?_) (fun hc => ?_)
            · have h2 := hb'.1 hc
              (repeat (first | with_reducible refine W.seq ?_ | with_reducible refine Ops.nil ?_ | with_reducible refine W.region ?_ | refine z_p (kk := ?_) | refine z_a (kk := ?_) | refine z_y (kk := ?_) | refine z_n (kk := ?_) | refine z_u (kk := ?_) | with_reducible refine W.skip ?_ | with_reducible refine W.endb ?_ | with_reducible refine W.block ?_ | refine W.exit rfl ?_ | refine z_l (kk := ?_) | refine z_f (kk := ?_) | refine z_M (kk := ?_) | refine z_m (kk := ?_) | refine z_e (kk := ?_) | refine z_E (kk := ?_) | refine z_d (kk := ?_)))
              refine Ops.rdS (enc := Value.int .i64) (z := (0 : Int)) rfl rfl rfl rfl rfl rfl rfl rfl rfl rfl rfl hw7 (by omega) (by omega) (fun p => ?_)
              simp only [Int.toNat_natCast]
              (repeat (first | with_reducible refine W.seq ?_ | with_reducible refine Ops.nil ?_ | with_reducible refine W.region ?_ | refine z_p (kk := ?_) | refine z_a (kk := ?_) | refine z_y (kk := ?_) | refine z_n (kk := ?_) | refine z_u (kk := ?_) | with_reducible refine W.skip ?_ | with_reducible refine W.endb ?_ | with_reducible refine W.block ?_ | refine W.exit rfl ?_ | refine z_l (kk := ?_) | refine z_f (kk := ?_) | refine z_M (kk := ?_) | refine z_m (kk := ?_) | refine z_e (kk := ?_) | refine z_E (kk := ?_) | refine z_d (kk := ?_)))
              refine Ops.callS rfl rfl rfl rfl rfl (mod_c _ _ _ (by decide) (by decide)) ?_
              (repeat (first | with_reducible refine W.seq ?_ | with_reducible refine Ops.nil ?_ | with_reducible refine W.region ?_ | refine z_p (kk := ?_) | refine z_a (kk := ?_) | refine z_y (kk := ?_) | refine z_n (kk := ?_) | refine z_u (kk := ?_) | with_reducible refine W.skip ?_ | with_reducible refine W.endb ?_ | with_reducible refine W.block ?_ | refine W.exit rfl ?_ | refine z_l (kk := ?_) | refine z_f (kk := ?_) | refine z_M (kk := ?_) | refine z_m (kk := ?_) | refine z_e (kk := ?_) | refine z_E (kk := ?_) | refine z_d (kk := ?_)))
              refine Ops.st rfl rfl rfl rfl rfl rfl rfl hB7 (by simp) (fun w9 hu9 => ?_)
              (repeat (first | with_reducible refine W.seq ?_ | with_reducible refine Ops.nil ?_ | with_reducible refine W.region ?_ | refine z_p (kk := ?_) | refine z_a (kk := ?_) | refine z_y (kk := ?_) | refine z_n (kk := ?_) | refine z_u (kk := ?_) | with_reducible refine W.skip ?_ | with_reducible refine W.endb ?_ | with_reducible refine W.block ?_ | refine W.exit rfl ?_ | refine z_l (kk := ?_) | refine z_f (kk := ?_) | refine z_M (kk := ?_) | refine z_m (kk := ?_) | refine z_e (kk := ?_) | refine z_E (kk := ?_) | refine z_d (kk := ?_)))
              exact W.endl ⟨_, ⟨_, rfl, (k7.trans hu9.kp).mono (fun i _ e => by rcases e with e | e; exact e; omega), by rw [htn, if_pos h2], hu9.blk⟩, (by repeat (first | exact trivial | refine And.intro rfl ?_))⟩
            · (repeat (first | with_reducible refine W.seq ?_ | with_reducible refine Ops.nil ?_ | with_reducible refine W.region ?_ | refine z_p (kk := ?_) | refine z_a (kk := ?_) | refine z_y (kk := ?_) | refine z_n (kk := ?_) | refine z_u (kk := ?_) | with_reducible refine W.skip ?_ | with_reducible refine W.endb ?_ | with_reducible refine W.block ?_ | refine W.exit rfl ?_ | refine z_l (kk := ?_) | refine z_f (kk := ?_) | refine z_M (kk := ?_) | refine z_m (kk := ?_) | refine z_e (kk := ?_) | refine z_E (kk := ?_) | refine z_d (kk := ?_)))
              exact W.endl ⟨_, ⟨_, rfl, k7, by rw [htn, if_neg (fun h => by have := hb'.2 h; rw [hc] at this; simp at this)], hB7⟩, (by repeat (first | exact trivial | refine And.intro rfl ?_))⟩
          · rintro ρ w9 ⟨z, rfl, k9, hz, hB9⟩
            (repeat (first | with_reducible refine W.seq ?_ | with_reducible refine Ops.nil ?_ | with_reducible refine W.region ?_ | refine z_p (kk := ?_) | refine z_a (kk := ?_) | refine z_y (kk := ?_) | refine z_n (kk := ?_) | refine z_u (kk := ?_) | with_reducible refine W.skip ?_ | with_reducible refine W.endb ?_ | with_reducible refine W.block ?_ | refine W.exit rfl ?_ | refine z_l (kk := ?_) | refine z_f (kk := ?_) | refine z_M (kk := ?_) | refine z_m (kk := ?_) | refine z_e (kk := ?_) | refine z_E (kk := ?_) | refine z_d (kk := ?_)))
            refine Ops.ld2 rfl rfl rfl rfl rfl rfl (hB9.cell rfl) (by rw [add_lit]; exact hB9.cell rfl) ?_
            refine Ops.push2 rfl rfl rfl rfl rfl rfl rfl rfl rfl rfl rfl (fun _ => rfl) rfl rfl (own_kp hown2 k9 (fun i hi e => by have := (hown2.lt i hi).2; omega)) (by omega) (fun lv' p w10 ho10 k10 hn10 => ?_)
            have hb9 : Below w4.heap.size w4 w9 := Below.at_ hb5 k9 (fun i hi => by have := hb5.size; omega)
            (repeat (first | with_reducible refine W.seq ?_ | with_reducible refine Ops.nil ?_ | with_reducible refine W.region ?_ | refine z_p (kk := ?_) | refine z_a (kk := ?_) | refine z_y (kk := ?_) | refine z_n (kk := ?_) | refine z_u (kk := ?_) | with_reducible refine W.skip ?_ | with_reducible refine W.endb ?_ | with_reducible refine W.block ?_ | refine W.exit rfl ?_ | refine z_l (kk := ?_) | refine z_f (kk := ?_) | refine z_M (kk := ?_) | refine z_m (kk := ?_) | refine z_e (kk := ?_) | refine z_E (kk := ?_) | refine z_d (kk := ?_)))
            refine W.endl ⟨_, _, ⟨⟨j + 1, _, _, rfl, by omega, rfl, Below.at_ hb9 k10 (fun i hi => hge2 i hi), ho10, fun k hk => ?_, fun i hi => ?_⟩, by omega⟩, (by repeat (first | exact trivial | refine And.intro rfl ?_))⟩
            · rcases hn10 k hk with e | e
              · exact hge2 k e
              · have := hb9.size; omega
            · by_cases e : i = j
              · subst e
                refine ⟨?_, ?_⟩
                · rw [List.getD_eq_getElem?_getD, List.getElem?_append_right (by omega), hsj]; simp [hxl]
                · rw [List.getD_eq_getElem?_getD, List.getElem?_append_right (by omega), ← hz]; simp [hxl]
              · have := hxs i (by omega)
                rw [gapp (by omega), gapp (by omega)]
                exact this
      · have hlt : j = R + 1 := by simp at hc; omega
        subst hlt
        (repeat (first | with_reducible refine W.seq ?_ | with_reducible refine Ops.nil ?_ | with_reducible refine W.region ?_ | refine z_p (kk := ?_) | refine z_a (kk := ?_) | refine z_y (kk := ?_) | refine z_n (kk := ?_) | refine z_u (kk := ?_) | with_reducible refine W.skip ?_ | with_reducible refine W.endb ?_ | with_reducible refine W.block ?_ | refine W.exit rfl ?_ | refine z_l (kk := ?_) | refine z_f (kk := ?_) | refine z_M (kk := ?_) | refine z_m (kk := ?_) | refine z_e (kk := ?_) | refine z_E (kk := ?_) | refine z_d (kk := ?_)))
        obtain ⟨g2, cap2, rfl, hc2⟩ := own_at hown2 (by omega)
        have hlen : (tameM ps ws most).length = R + 1 := by rw [tameM_len, hR]
        have hat : ∀ i, i < R + 1 → (tameM ps ws most).getD i ([], 0) = tameN ps ws C i := fun i hi => by rw [tameM_at (by omega), hR, hC]
        refine W.fret rfl ⟨⟨some ⟨g2, 0, none⟩, cap2, svs, by rw [hlen]; rfl, fun _ => ⟨_, rfl, fun i hi => ?_⟩, fun i hi => ?_⟩, hL5.bel⟩
        · rw [hlen] at hi
          have := hxs i hi
          rw [add_lit, add_lit, Nat.zero_add, hat i hi]
          exact ⟨by rw [hc2 _ (by omega), this.1], by rw [hc2 _ (by omega), this.2]⟩
        · rw [hlen] at hi
          rw [hat i hi]
          exact own_sl (z := (0 : Int)) (hL5.own i (by omega))
end Go.Proofs.Ytdiljpnfochndaa
/- An insertion into a sorted list. -/
namespace Go.Proofs.Ytdiljpnfochndaa.HP
theorem ins_pw {K : Int → Int} {cs : List Int} {c : Int} {j : Nat} (hp : cs.Pairwise fun a b => K a < K b) (hj : j ≤ cs.length) (hlo : ∀ x : Nat, x < j → K (cs.getD x 0) < K c) (hhi : j = cs.length ∨ K c < K (cs.getD j 0)) : (cs.take j ++ [c] ++ cs.drop j).Pairwise fun a b => K a < K b := by
  have hlo' : ∀ a ∈ cs.take j, K a < K c := fun a ha => by
    obtain ⟨x, hx, rfl⟩ := List.mem_iff_getElem.1 ha
    rw [List.length_take] at hx
    have := hlo x (by omega)
    simpa [List.getD_eq_getElem?_getD, show x < cs.length by omega] using this
  have hhi' : ∀ b ∈ cs.drop j, K c < K b := fun b hb => by
    obtain ⟨x, hx, rfl⟩ := List.mem_iff_getElem.1 hb
    rw [List.length_drop] at hx
    rcases hhi with h | h
    · omega
    · rw [List.getElem_drop]
      have h' : K c < K cs[j] := by simpa [List.getD_eq_getElem?_getD, show j < cs.length by omega] using h
      cases x with
      | zero => simpa using h'
      | succ x =>
        have := List.pairwise_iff_getElem.1 hp j (j + (x + 1)) (by omega) (by omega) (by omega)
        exact Int.lt_trans h' this
  have htd : (cs.take j ++ cs.drop j).Pairwise fun a b => K a < K b := by rw [List.take_append_drop]; exact hp
  rw [List.pairwise_append] at htd
  rw [List.append_assoc, List.pairwise_append]
  refine ⟨htd.1, ?_, fun a ha b hb => ?_⟩
  · rw [List.singleton_append, List.pairwise_cons]
    exact ⟨hhi', htd.2.1⟩
  · rw [List.singleton_append] at hb
    rcases List.mem_cons.1 hb with rfl | hb
    · exact hlo' a ha
    · exact htd.2.2 a ha b hb
theorem ins_perm {cs : List Int} {c : Int} {j : Nat} : (cs.take j ++ [c] ++ cs.drop j).Perm (cs ++ [c]) := by
  have h : (cs.take j ++ [c] ++ cs.drop j).Perm (cs.take j ++ (cs.drop j ++ [c])) := by
    rw [List.append_assoc]
    exact List.Perm.append_left _ List.perm_append_comm
  rw [← List.append_assoc, List.take_append_drop] at h
  exact h
end Go.Proofs.Ytdiljpnfochndaa.HP
