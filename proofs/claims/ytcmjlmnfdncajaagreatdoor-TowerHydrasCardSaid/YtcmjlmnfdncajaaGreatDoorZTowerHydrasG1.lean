/- A part of the walk: what this seat's statements share. -/
import Derived.Test.YtcmjlmnfdncajaaGreatDoorZG9
import Derived.Test.YtcmjlmnfdncajaaGreatDoorZG6
import Derived.Test.YtcmjlmnfdncajaaGreatDoorZG8
import Derived.Test.YtcmjlmnfdncajaaGreatDoorZG10
import Derived.Test.YtcmjlmnfdncajaaGreatDoorZG7
set_option linter.unusedVariables false
set_option linter.unusedSimpArgs false
set_option linter.unusedSectionVars false
/- Plain: what Goodstein's list is. -/
namespace Go.Proofs.YtcmjlmnfdncajaaGreatDoor.TW
structure GoodS (r b m : Nat) (ns : List Nat) (os : List Od) : Prop where
  lo : os.length = ns.length
  pos : 1 ≤ ns.length
  le : ns.length ≤ r + 1
  hd : ns.getD 0 0 = m
  fin : ns.length ≤ r → ns.getD (ns.length - 1) 0 = 0
  od : ∀ i, i < ns.length → os.getD i .nil = lif (b + i) (ns.getD i 0) ∧ bigT (lif (b + i) (ns.getD i 0)) = false
  nxt : ∀ i, i + 1 < ns.length → ns.getD i 0 ≠ 0 ∧ bmp (b + i) (ns.getD i 0) ≤ 1152921504606846977 ∧ ns.getD (i + 1) 0 = bmp (b + i) (ns.getD i 0) - 1
theorem goodL_spec : ∀ (r b m : Nat) {ns : List Nat} {os : List Od}, goodL r b m = some (ns, os) → GoodS r b m ns os
  | 0, b, m, ns, os, h => by
    by_cases hb : bigT (lif b m) = true
    · rw [goodL_big hb] at h; cases h
    · have hb' : bigT (lif b m) = false := by simpa using hb
      rw [goodL_end hb' (.inr rfl)] at h
      simp only [Option.some.injEq, Prod.mk.injEq] at h
      obtain ⟨rfl, rfl⟩ := h
      exact ⟨rfl, Nat.le_refl _, Nat.le_refl _, rfl, fun h => by simp at h, fun i hi => by
        have : i = 0 := by simpa using hi
        subst this
        exact ⟨rfl, hb'⟩, fun i hi => by simp at hi⟩
  | r + 1, b, m, ns, os, h => by
    by_cases hb : bigT (lif b m) = true
    · rw [goodL_big hb] at h; cases h
    · have hb' : bigT (lif b m) = false := by simpa using hb
      by_cases hm : m = 0
      · rw [goodL_end hb' (.inl hm)] at h
        simp only [Option.some.injEq, Prod.mk.injEq] at h
        obtain ⟨rfl, rfl⟩ := h
        exact ⟨rfl, Nat.le_refl _, by simp, rfl, fun _ => hm, fun i hi => by
          have : i = 0 := by simpa using hi
          subst this
          exact ⟨rfl, hb'⟩, fun i hi => by simp at hi⟩
      · by_cases h3 : bmp b m ≤ 1152921504606846977
        · rw [goodL_more hb' hm h3] at h
          cases hx : goodL r (b + 1) (bmp b m - 1) with
          | none => rw [hx] at h; cases h
          | some q =>
            rw [hx] at h
            simp only [Option.map_some, Option.some.injEq, Prod.mk.injEq] at h
            obtain ⟨rfl, rfl⟩ := h
            obtain ⟨q1, q2⟩ := q
            have ih := goodL_spec r (b + 1) (bmp b m - 1) hx
            refine ⟨by simp [ih.lo], by simp, by simp; exact ih.le, rfl, fun h => ?_, fun i hi => ?_, fun i hi => ?_⟩
            · have h1 := ih.fin (by simpa using h)
              have h2 := ih.pos
              simp only [List.length_cons, Nat.add_sub_cancel]
              rw [show q1.length = (q1.length - 1) + 1 by omega, List.getD_cons_succ]
              exact h1
            · cases i with
              | zero => exact ⟨rfl, hb'⟩
              | succ i =>
                have := ih.od i (by simpa using hi)
                simp only [List.getD_cons_succ]
                rw [show b + (i + 1) = b + 1 + i by omega]
                exact this
            · cases i with
              | zero =>
                simp only [List.getD_cons_succ, List.getD_cons_zero]
                exact ⟨hm, h3, ih.hd⟩
              | succ i =>
                have := ih.nxt i (by simpa using hi)
                simp only [List.getD_cons_succ]
                rw [show b + (i + 1) = b + 1 + i by omega]
                exact this
        · rw [goodL_full hm h3] at h; cases h
theorem small_of : ∀ {o : Od}, NF o → mostO o ≤ 1000 → Small o
  | .nil, _, _ => trivial
  | .cons e c r, h, hm => by
    obtain ⟨h1, h2, h3, h4⟩ := h
    simp only [mostO] at hm
    exact ⟨small_of h1 (by omega), ⟨h2, by omega⟩, small_of h3 (by omega)⟩
theorem rdA_lif {b m : Nat} (hb : 2 ≤ b) (hb2 : b ≤ 1000) (h : bigT (lif b m) = false) : rdA (txO (lif b m)) = some (lif b m) := by
  have h1 := lif_NF hb m m (Nat.le_refl _)
  have h2 := lif_most hb m m (Nat.le_refl _)
  have h3 := of_decide_eq_false h
  exact rdA_tx h1 (small_of h1 (by omega)) (by omega)
/-- The ordinals descend. -/
theorem good_down {b n : Nat} (hb : 2 ≤ b) (hn : n ≠ 0) : cmpO (lif (b + 1) (bmp b n - 1)) (lif b n) = -1 := by
  have h1 := le_bmp hb n
  have h2 := lif_mono (b := b + 1) (by omega) (bmp b n) (bmp b n - 1) (bmp b n) (Nat.le_refl _) (by omega)
  rw [lif_bmp hb n n (Nat.le_refl _)] at h2
  exact h2
end Go.Proofs.YtcmjlmnfdncajaaGreatDoor.TW
/- Plain: the blend is associative and grows; the measure of a hydra, and how it falls. -/
namespace Go.Proofs.YtcmjlmnfdncajaaGreatDoor.TW
theorem bl_gt {ae ar X : Od} {ac : Nat} (h : HdLt ae X) : blO (.cons ae ac ar) X = .cons ae ac (blO ar X) := by
  cases X with
  | nil => rw [blO_nil, blO_nil]
  | cons be bc br => rw [blO_cons, if_pos (gt_lt.2 h)]
theorem bl_gtc {ae ar be br : Od} {ac bc : Nat} (h : ltO be ae) : blO (.cons ae ac ar) (.cons be bc br) = .cons ae ac (blO ar (.cons be bc br)) := bl_gt (X := .cons be bc br) h
theorem bl_lt {ae ar be br : Od} {ac bc : Nat} (h : ltO ae be) : blO (.cons ae ac ar) (.cons be bc br) = .cons be bc (blO (.cons ae ac ar) br) := by
  have h' : cmpO ae be = -1 := h
  rw [blO_cons, if_neg (by omega), if_pos h']
theorem bl_eq {e ar br : Od} {ac bc : Nat} : blO (.cons e ac ar) (.cons e bc br) = .cons e (ac + bc) (blO ar br) := by
  rw [blO_cons, cmp_self, if_neg (by omega), if_neg (by omega)]
theorem bl_assoc : ∀ (a b c : Od), blO (blO a b) c = blO a (blO b c)
  | .nil, b, c => rfl
  | .cons ae ac ar, .nil, c => by rw [blO_nil]; rfl
  | .cons ae ac ar, .cons be bc br, .nil => by rw [blO_nil, blO_nil]
  | .cons ae ac ar, .cons be bc br, .cons ce cc cr => by
    rcases tri ae be with h | h | h
    · rw [bl_lt h]
      rcases tri be ce with k | k | k
      · rw [bl_lt k, bl_lt k, bl_lt (lt_trans h k), ← bl_assoc (.cons ae ac ar) (.cons be bc br) cr, bl_lt h]
      · subst k
        rw [bl_eq, bl_eq, bl_lt h, bl_assoc (.cons ae ac ar) br cr]
      · rw [bl_gtc k, bl_gtc k, bl_lt h, bl_assoc (.cons ae ac ar) br (.cons ce cc cr)]
    · subst h
      rw [bl_eq]
      rcases tri ae ce with k | k | k
      · rw [bl_lt k, bl_lt k, bl_lt k, ← bl_assoc (.cons ae ac ar) (.cons ae bc br) cr, bl_eq]
      · subst k
        rw [bl_eq, bl_eq, bl_eq, bl_assoc ar br cr, Nat.add_assoc]
      · rw [bl_gtc k, bl_gtc k, bl_eq, bl_assoc ar br (.cons ce cc cr)]
    · rw [bl_gtc h]
      rcases tri ae ce with k | k | k
      · rw [bl_lt k, bl_lt (lt_trans h k), bl_lt k, ← bl_assoc (.cons ae ac ar) (.cons be bc br) cr, bl_gtc h]
      · subst k
        rw [bl_eq, bl_lt h, bl_eq, bl_assoc ar (.cons be bc br) cr]
      · rw [bl_gtc k, bl_gt (bl_hd (e := ae) (a := .cons be bc br) (b := .cons ce cc cr) h k), bl_assoc ar (.cons be bc br) (.cons ce cc cr)]
  termination_by a b c => SizeOf.sizeOf a + SizeOf.sizeOf b + SizeOf.sizeOf c
theorem bl_ne_nil {a b : Od} (h : a ≠ .nil) : blO a b ≠ .nil := by
  cases a with
  | nil => exact absurd rfl h
  | cons ae ac ar =>
    cases b with
    | nil => rw [blO_nil]; exact h
    | cons be bc br =>
      rw [blO_cons]
      split
      · simp
      · split <;> simp
theorem bl_mono : ∀ {a b c : Od}, NF b → ltO a b → ltO (blO a c) (blO b c)
  | a, b, .nil, _, h => by rw [blO_nil, blO_nil]; exact h
  | a, .nil, _, _, h => absurd h lt_nil
  | .nil, .cons be bc br, .cons ce cc cr, hb, h => by
    show ltO (.cons ce cc cr) _
    rcases tri be ce with k | k | k
    · rw [bl_lt k]
      refine lt_cons.2 (.inr ⟨rfl, .inr ⟨rfl, ?_⟩⟩)
      exact bl_mono (a := .nil) hb h
    · subst k
      rw [bl_eq]
      exact lt_cons.2 (.inr ⟨rfl, .inl (by have := hb.2.1; omega)⟩)
    · rw [bl_gtc k]
      exact lt_cons.2 (.inl k)
  | .cons ae ac ar, .cons be bc br, .cons ce cc cr, hb, h => by
    rcases lt_cons.1 h with h1 | ⟨h1, h2⟩
    · rcases tri be ce with k | k | k
      · rw [bl_lt k, bl_lt (lt_trans h1 k)]
        exact lt_cons.2 (.inr ⟨rfl, .inr ⟨rfl, bl_mono hb h⟩⟩)
      · subst k
        rw [bl_eq, bl_lt h1]
        exact lt_cons.2 (.inr ⟨rfl, .inl (by have := hb.2.1; omega)⟩)
      · rw [bl_gtc k]
        have hh : HdLt be (blO (.cons ae ac ar) (.cons ce cc cr)) := bl_hd (a := .cons ae ac ar) (b := .cons ce cc cr) h1 k
        cases hx : blO (.cons ae ac ar) (.cons ce cc cr) with
        | nil => exact nil_lt
        | cons xe xc xr => rw [hx] at hh; exact lt_cons.2 (.inl hh)
    · subst h1
      rcases tri ae ce with k | k | k
      · rw [bl_lt k, bl_lt k]
        exact lt_cons.2 (.inr ⟨rfl, .inr ⟨rfl, bl_mono hb h⟩⟩)
      · subst k
        rw [bl_eq, bl_eq]
        rcases h2 with h2 | ⟨h2, h3⟩
        · exact lt_cons.2 (.inr ⟨rfl, .inl (by omega)⟩)
        · exact lt_cons.2 (.inr ⟨rfl, .inr ⟨by omega, bl_mono hb.2.2.1 h3⟩⟩)
      · have k' : HdLt ae (.cons ce cc cr) := k
        rw [bl_gt k', bl_gt k']
        rcases h2 with h2 | ⟨h2, h3⟩
        · exact lt_cons.2 (.inr ⟨rfl, .inl (by omega)⟩)
        · exact lt_cons.2 (.inr ⟨rfl, .inr ⟨by omega, bl_mono hb.2.2.1 h3⟩⟩)
  termination_by a b c => SizeOf.sizeOf a + SizeOf.sizeOf b + SizeOf.sizeOf c
theorem bl_sizes : ∀ (a b : Od), szO (blO a b) ≤ szO a + szO b ∧ szO a ≤ szO (blO a b) ∧ szO b ≤ szO (blO a b) ∧ topO (blO a b) ≤ topO a + topO b ∧ exM (blO a b) = max (exM a) (exM b) ∧ topO a ≤ topO (blO a b) ∧ topO b ≤ topO (blO a b)
  | .nil, b => by simp only [blO, szO, topO, exM]; omega
  | .cons ae ac ar, .nil => by simp only [blO_nil, szO, topO, exM]; omega
  | .cons ae ac ar, .cons be bc br => by
    rcases tri ae be with h | h | h
    · rw [bl_lt h]
      have := bl_sizes (.cons ae ac ar) br
      simp only [szO, topO, exM] at this ⊢
      omega
    · subst h
      rw [bl_eq]
      have := bl_sizes ar br
      simp only [szO, topO, exM] at this ⊢
      omega
    · rw [bl_gtc h]
      have := bl_sizes ar (.cons be bc br)
      simp only [szO, topO, exM] at this ⊢
      omega
  termination_by a b => SizeOf.sizeOf a + SizeOf.sizeOf b
/-- The ordinal of a hydra. -/
def msF : Fo → Od
  | .nil => .nil
  | .cons k r => blO (.cons (msF k) 1 .nil) (msF r)
theorem ms_NF : ∀ f, NF (msF f)
  | .nil => trivial
  | .cons k r => bl_NF (a := .cons (msF k) 1 .nil) ⟨ms_NF k, Nat.one_pos, trivial, trivial⟩ (ms_NF r)
theorem ms_sizes : ∀ f, szO (msF f) ≤ szF f ∧ mostO (msF f) ≤ szF f
  | .nil => ⟨Nat.le_refl _, Nat.le_refl _⟩
  | .cons k r => by
    have h1 := ms_sizes k
    have h2 := ms_sizes r
    have h3 := bl_sizes (.cons (msF k) 1 .nil) (msF r)
    have h4 := most_eq (blO (.cons (msF k) 1 .nil) (msF r))
    have h5 := most_eq (msF r)
    simp only [msF, szF, szO, topO, exM] at *
    omega
theorem ms_rep : ∀ (n c : Nat) (k r : Fo), 0 < c → blO (.cons (msF k) c .nil) (msF (repF n k r)) = blO (.cons (msF k) (c + n) .nil) (msF r)
  | 0, c, k, r, _ => rfl
  | n + 1, c, k, r, h => by
    have e : msF (repF (n + 1) k r) = blO (.cons (msF k) 1 .nil) (msF (repF n k r)) := rfl
    rw [e, ← bl_assoc, bl_eq, blO_nil, ms_rep n (c + 1) k r (by omega)]
    rw [show c + 1 + n = c + (n + 1) by omega]
theorem heF_pos : ∀ {f : Fo}, f ≠ .nil → 1 ≤ heF f
  | .nil, h => absurd rfl h
  | .cons k r, _ => by simp only [heF]; omega
theorem bl_mono' {a b c : Od} (hb : NF b) (h : ltO a b) : ltO (blO c a) (blO c b) := by
  rw [bl_comm c a, bl_comm c b]; exact bl_mono hb h
theorem one_NF {e : Od} (h : NF e) : NF (.cons e 1 .nil) := ⟨h, Nat.one_pos, trivial, trivial⟩
theorem chop_lt : ∀ {f : Fo} {head n : Nat}, head < heF f → ltO (msF (chF f head n).1) (msF f)
  | .nil, head, n, h => by simp [heF] at h
  | .cons k r, head, n, h => by
    by_cases hp : max 1 (heF k) ≤ head
    · rw [chF_past hp]
      have ih := chop_lt (f := r) (head := head - max 1 (heF k)) (n := n) (by simp only [heF] at h; omega)
      exact bl_mono' (ms_NF r) ih
    · by_cases hk : k = .nil
      · subst hk
        have h0 : head = 0 := by simp only [heF] at hp; omega
        subst h0
        rw [chF_head]
        have := bl_mono (a := .nil) (b := .cons .nil 1 .nil) (c := msF r) (one_NF trivial) nil_lt
        exact this
      · rw [chF_in hp hk]
        have h1 := heF_pos hk
        have ih := chop_lt (f := k) (head := head) (n := n) (by omega)
        have hm : ∀ c, ltO (.cons (msF (chF k head n).1) c .nil) (.cons (msF k) 1 .nil) := fun c => lt_cons.2 (.inl ih)
        show ltO (blO (.cons (msF (chF k head n).1) 1 .nil) (msF (if (chF k head n).2 = true then repF n (chF k head n).1 r else r))) (blO (.cons (msF k) 1 .nil) (msF r))
        split
        · rw [ms_rep n 1 _ _ (by omega)]
          exact bl_mono (one_NF (ms_NF k)) (hm _)
        · exact bl_mono (one_NF (ms_NF k)) (hm _)
/-- One node fewer, and some more for each copy. -/
theorem chop_sz : ∀ {f : Fo} {head : Nat}, head < heF f → ∃ d b, ∀ n, (chF f head n).2 = b ∧ szF (chF f head n).1 + 1 = szF f + n * d ∧ (b = true → d = 0)
  | .nil, head, h => by simp [heF] at h
  | .cons k r, head, h => by
    by_cases hp : max 1 (heF k) ≤ head
    · obtain ⟨d, b, ih⟩ := chop_sz (f := r) (head := head - max 1 (heF k)) (by simp only [heF] at h; omega)
      refine ⟨d, b, fun n => ?_⟩
      rw [chF_past hp]
      obtain ⟨h1, h2, h3⟩ := ih n
      exact ⟨h1, by simp only [szF]; omega, h3⟩
    · by_cases hk : k = .nil
      · subst hk
        have h0 : head = 0 := by simp only [heF] at hp; omega
        subst h0
        refine ⟨0, true, fun n => ?_⟩
        rw [chF_head]
        exact ⟨rfl, by simp only [szF]; omega, fun _ => rfl⟩
      · have h1 := heF_pos hk
        obtain ⟨d, b, ih⟩ := chop_sz (f := k) (head := head) (by omega)
        cases b with
        | true =>
          refine ⟨szF k, false, fun n => ?_⟩
          rw [chF_in hp hk]
          obtain ⟨h1, h2, h3⟩ := ih n
          have h4 := h3 rfl
          subst h4
          refine ⟨rfl, ?_, fun h => by cases h⟩
          rw [h1, if_pos rfl]
          simp only [szF, repF_sz]
          rw [show 1 + szF (chF k head n).1 = szF k by omega]
          omega
        | false =>
          refine ⟨d, false, fun n => ?_⟩
          rw [chF_in hp hk]
          obtain ⟨h1, h2, h3⟩ := ih n
          refine ⟨rfl, ?_, fun h => by cases h⟩
          rw [h1, if_neg (by simp)]
          simp only [szF]
          omega
end Go.Proofs.YtcmjlmnfdncajaaGreatDoor.TW
/- Plain: ordinals made from any string. -/
namespace Go.Proofs.YtcmjlmnfdncajaaGreatDoor.TW
def grK (G : Nat → Od × Nat) (s : By) : Nat → Od → Nat → Od × Nat
  | 0, out, i => (out, i)
  | k + 1, out, i => if s.length ≤ i ∨ (s.getD i 0).toNat % 4 = 0 then (out, i + 1) else
      grK G s k (blO out (.cons (G (i + 1)).1 (1 + (s.getD i 0).toNat / 4 % 8) .nil)) (G (i + 1)).2
def grO (s : By) : Nat → Nat → Od × Nat
  | 0, i => (.nil, i)
  | l + 1, i => grK (grO s l) s 3 .nil i
structure GrOk (K : Nat) (o : Od) : Prop where
  nf : NF o
  top : topO o ≤ 24
  ex : exM o ≤ 24
  sz : szO o ≤ K
theorem grK_ok {G : Nat → Od × Nat} {s : By} {K D : Nat} (hG : ∀ i, GrOk K (G i).1 ∧ i ≤ (G i).2 ∧ (G i).2 ≤ i + D) : ∀ (k : Nat) (out : Od) (i : Nat), k ≤ 3 → NF out → topO out ≤ 8 * (3 - k) → exM out ≤ 24 → szO out ≤ (3 - k) * (K + 1) →
    GrOk (3 * (K + 1)) (grK G s k out i).1 ∧ i ≤ (grK G s k out i).2 ∧ (grK G s k out i).2 ≤ i + (k * (D + 1) + 1)
  | 0, out, i, _, h1, h2, h3, h4 => ⟨⟨h1, by simp only [grK]; omega, h3, h4⟩, by simp only [grK]; omega, by simp only [grK]; omega⟩
  | k + 1, out, i, hk, h1, h2, h3, h4 => by
    simp only [grK]
    have hm : (3 - (k + 1)) * (K + 1) ≤ 3 * (K + 1) := Nat.mul_le_mul_right _ (by omega)
    split
    · exact ⟨⟨h1, by show topO out ≤ 24; omega, h3, by show szO out ≤ _; omega⟩, by show i ≤ i + 1; omega, by show i + 1 ≤ _; omega⟩
    · obtain ⟨g1, g2, g3⟩ := hG (i + 1)
      generalize hc : 1 + (s.getD i 0).toNat / 4 % 8 = c
      have hc8 : 1 ≤ c ∧ c ≤ 8 := by omega
      have hb := bl_sizes out (.cons (G (i + 1)).1 c .nil)
      have hmo := most_eq (G (i + 1)).1
      have q1 := g1.top
      have q2 := g1.ex
      have q3 := g1.sz
      simp only [szO, topO, exM] at hb
      have e1 : (3 - k) * (K + 1) = (3 - (k + 1)) * (K + 1) + (K + 1) := by
        rw [show 3 - k = (3 - (k + 1)) + 1 by omega, Nat.succ_mul]
      obtain ⟨i1, i2, i3⟩ := grK_ok hG k (blO out (.cons (G (i + 1)).1 c .nil)) (G (i + 1)).2 (by omega) (bl_NF h1 ⟨g1.nf, by omega, trivial, trivial⟩) (by omega) (by omega) (by omega)
      refine ⟨i1, by omega, ?_⟩
      rw [Nat.succ_mul]
      omega
theorem grO_ok (s : By) : ∀ (l i : Nat), l ≤ 3 → GrOk (match l with | 0 => 0 | 1 => 3 | 2 => 12 | _ => 39) (grO s l i).1 ∧ i ≤ (grO s l i).2 ∧ (grO s l i).2 ≤ i + (match l with | 0 => 0 | 1 => 4 | 2 => 16 | _ => 52)
  | 0, i, _ => ⟨⟨trivial, by simp [grO, topO], by simp [grO, exM], by simp [grO, szO]⟩, Nat.le_refl _, Nat.le_refl _⟩
  | 1, i, _ => grK_ok (K := 0) (D := 0) (fun i => grO_ok s 0 i (by omega)) 3 .nil i (by omega) trivial (by simp [topO]) (by simp [exM]) (by simp [szO])
  | 2, i, _ => grK_ok (K := 3) (D := 4) (fun i => grO_ok s 1 i (by omega)) 3 .nil i (by omega) trivial (by simp [topO]) (by simp [exM]) (by simp [szO])
  | 3, i, _ => grK_ok (K := 12) (D := 16) (fun i => grO_ok s 2 i (by omega)) 3 .nil i (by omega) trivial (by simp [topO]) (by simp [exM]) (by simp [szO])
  | n + 4, i, h => by omega
/-- The ordinal of a string. -/
def ordS (s : By) : Od := (grO s 3 0).1
theorem ordS_ok (s : By) : NF (ordS s) ∧ mostO (ordS s) ≤ 24 ∧ szO (ordS s) ≤ 39 := by
  have h := (grO_ok s 3 0 (by omega)).1
  have h1 := h.top
  have h2 := h.ex
  have h3 := h.sz
  have h4 := most_eq (grO s 3 0).1
  exact ⟨h.nf, by unfold ordS; omega, h3⟩
theorem rdA_ordS (s : By) : rdA (txO (ordS s)) = some (ordS s) := by
  obtain ⟨h1, h2, h3⟩ := ordS_ok s
  exact rdA_tx h1 (small_of h1 (by omega)) (by omega)
/-- Texts tell ordinals apart. -/
theorem txO_inj {a b : Od} (ha : rdA (txO a) = some a) (hb : rdA (txO b) = some b) (h : txO a = txO b) : a = b := by
  rw [h, hb] at ha
  exact (Option.some.inj ha).symm
end Go.Proofs.YtcmjlmnfdncajaaGreatDoor.TW
/- Plain: hydras as strings: read back, and grown. -/
namespace Go.Proofs.YtcmjlmnfdncajaaGreatDoor.TW
theorem txF_len : ∀ f, (txF f).length = 2 * szF f
  | .nil => rfl
  | .cons k r => by simp only [txF, szF, List.length_cons, List.length_append, txF_len k, txF_len r]; omega
theorem txH_len (f : Fo) : (txH f).length = 2 * szF f + 2 := by simp only [txH, List.length_cons, List.length_append, List.length_nil, txF_len]
theorem rdFo_tx : ∀ {f : Fo} {n : Nat} {t : By}, (∀ u, t ≠ 40 :: u) → szF f < n → rdFo n (txF f ++ t) = some (f, t)
  | .nil, 0, t, _, h => by simp [szF] at h
  | .nil, n + 1, t, ht, h => by
    have : pre [40] t = none := by
      cases t with
      | nil => rfl
      | cons b u =>
        simp only [pre]
        rw [if_neg]
        intro e
        exact ht u (by rw [e])
    exact rdFo_none this
  | .cons k r, 0, t, _, h => by simp [szF] at h
  | .cons k r, n + 1, t, ht, h => by
    simp only [szF] at h
    have e1 : txF (.cons k r) ++ t = [40] ++ (txF k ++ (41 :: (txF r ++ t))) := by simp [txF]
    rw [e1]
    simp only [rdFo, pre_app]
    rw [rdFo_tx (f := k) (n := n) (t := 41 :: (txF r ++ t)) (fun u e => by simp at e) (by omega)]
    have e2 : (41 : UInt8) :: (txF r ++ t) = [41] ++ (txF r ++ t) := rfl
    simp only [e2, pre_app]
    rw [rdFo_tx (f := r) ht (by omega)]
    rfl
theorem rdHA_tx {f : Fo} (h : 1 + szF f ≤ 200) : rdHA (txH f) = some f := by
  have hl := txH_len f
  unfold rdHA rdHy
  have e1 : txH f = [40] ++ (txF f ++ [41]) := rfl
  rw [hl]
  rw [e1]
  simp only [pre_app]
  rw [rdFo_tx (f := f) (t := [41]) (fun u e => by simp at e) (by omega)]
  have e3 : pre [41] [41] = some [] := rfl
  simp only [e3, Option.map_some]
  rw [if_pos h]
/-- A pair is put in. -/
theorem ins_F : ∀ (f : Fo) (p : Nat), p ≤ (txF f).length → ∃ f', (txF f).take p ++ ([40, 41] ++ (txF f).drop p) = txF f' ∧ szF f' = szF f + 1
  | .nil, p, h => by
    have : p = 0 := by simpa [txF] using h
    subst this
    exact ⟨.cons .nil .nil, rfl, rfl⟩
  | .cons k r, p, h => by
    have hk := txF_len k
    cases p with
    | zero => exact ⟨.cons .nil (.cons k r), by simp [txF], by simp only [szF]; omega⟩
    | succ p =>
      simp only [txF, List.length_cons, List.length_append] at h
      by_cases hp : p ≤ (txF k).length
      · obtain ⟨k', h1, h2⟩ := ins_F k p hp
        refine ⟨.cons k' r, ?_, by simp only [szF]; omega⟩
        simp only [txF, List.take_succ_cons, List.drop_succ_cons, List.cons_append]
        rw [← h1, List.take_append_of_le_length hp, List.drop_append_of_le_length hp]
        simp
      · obtain ⟨r', h1, h2⟩ := ins_F r (p - (txF k).length - 1) (by omega)
        refine ⟨.cons k r', ?_, by simp only [szF]; omega⟩
        simp only [txF, List.take_succ_cons, List.drop_succ_cons, List.cons_append]
        rw [← h1, List.take_append, List.drop_append, List.take_of_length_le (by omega), List.drop_eq_nil_of_le (by omega)]
        rw [show p - (txF k).length = (p - (txF k).length - 1) + 1 by omega, List.take_succ_cons, List.drop_succ_cons]
        simp
theorem ins_H (f : Fo) {p : Nat} (h1 : 1 ≤ p) (h2 : p + 1 ≤ (txH f).length) : ∃ f', (txH f).take p ++ ([40, 41] ++ (txH f).drop p) = txH f' ∧ szF f' = szF f + 1 := by
  have hl := txH_len f
  have hl2 := txF_len f
  obtain ⟨f', h3, h4⟩ := ins_F f (p - 1) (by omega)
  refine ⟨f', ?_, h4⟩
  rw [show p = (p - 1) + 1 by omega]
  simp only [txH, List.take_succ_cons, List.drop_succ_cons, List.cons_append]
  rw [← h3, List.take_append_of_le_length (by omega), List.drop_append_of_le_length (by omega)]
  simp
/-- Grown from the bytes of a string. -/
def grwL : By → By → By
  | [], out => out
  | b :: s, out => grwL s (out.take (1 + b.toNat * 7 % (out.length - 1)) ++ ([40, 41] ++ out.drop (1 + b.toNat * 7 % (out.length - 1))))
theorem grw_ok : ∀ (s : By) (f : Fo), ∃ f', grwL s (txH f) = txH f' ∧ szF f' = szF f + s.length
  | [], f => ⟨f, rfl, rfl⟩
  | b :: s, f => by
    have hl := txH_len f
    have hm := Nat.mod_lt (b.toNat * 7) (show (txH f).length - 1 > 0 by omega)
    obtain ⟨f1, h1, h2⟩ := ins_H f (p := 1 + b.toNat * 7 % ((txH f).length - 1)) (by omega) (by omega)
    obtain ⟨f2, h3, h4⟩ := grw_ok s f1
    refine ⟨f2, ?_, by simp; omega⟩
    simp only [grwL]
    rw [h1, h3]
end Go.Proofs.YtcmjlmnfdncajaaGreatDoor.TW
/- Plain: hydras as strings, looked at by positions as the reference does. -/
namespace Go.Proofs.YtcmjlmnfdncajaaGreatDoor.TW
/-- The rest of a hydra, with o pairs open: every byte a bracket, the outer pair ends at the end alone. -/
def scn : Nat → By → Bool
  | o, [] => o == 0
  | o, b :: t => if b = 40 then scn (o + 1) t else if b = 41 then (if o ≤ 1 ∧ t ≠ [] then false else match o with | 0 => false | o + 1 => scn o t) else false
theorem scn_tree : ∀ (s : By) (o : Nat), scn (o + 1) s = true → ∃ f s', s = txF f ++ 41 :: s' ∧ (o = 0 → s' = []) ∧ scn o s' = true := by
  intro s
  induction hn : s.length using Nat.strongRecOn generalizing s with
  | _ n ih =>
  subst hn
  intro o h
  cases s with
  | nil => simp [scn] at h
  | cons b t =>
    simp only [scn] at h
    split at h
    · rename_i hb
      subst hb
      obtain ⟨k, s1, h1, _, h2⟩ := ih t.length (by simp) t rfl (o + 1) h
      subst h1
      obtain ⟨r, s2, h3, h4, h5⟩ := ih s1.length (by simp; omega) s1 rfl o h2
      subst h3
      exact ⟨.cons k r, s2, by simp [txF], h4, h5⟩
    · split at h
      · rename_i hb
        subst hb
        split at h
        · cases h
        · rename_i hc
          refine ⟨.nil, t, rfl, fun ho => ?_, h⟩
          subst ho
          exact Classical.byContradiction fun ht => hc ⟨by omega, ht⟩
      · cases h
theorem scn_tx : ∀ (f : Fo) (o : Nat) (t : By), scn (o + 1) (txF f ++ t) = scn (o + 1) t
  | .nil, o, t => rfl
  | .cons k r, o, t => by
    have e : txF (.cons k r) ++ t = 40 :: (txF k ++ (41 :: (txF r ++ t))) := by simp [txF]
    rw [e]
    have h1 : scn (o + 1) (40 :: (txF k ++ (41 :: (txF r ++ t)))) = scn (o + 1 + 1) (txF k ++ (41 :: (txF r ++ t))) := by simp [scn]
    rw [h1, scn_tx k (o + 1) _]
    have h2 : scn (o + 1 + 1) (41 :: (txF r ++ t)) = scn (o + 1) (txF r ++ t) := by
      simp only [scn]
      rw [if_neg (by decide), if_pos (by trivial), if_neg (by omega)]
    rw [h2, scn_tx r o t]
/-- What the reference calls a hydra. -/
def isH (s : By) : Bool := scn 0 s && decide (2 ≤ s.length) && decide (s.length ≤ 400)
theorem isH_iff (s : By) : isH s = true ↔ ∃ f, s = txH f ∧ 1 + szF f ≤ 200 := by
  unfold isH
  simp only [Bool.and_eq_true, decide_eq_true_eq]
  constructor
  · rintro ⟨⟨h1, h2⟩, h3⟩
    cases s with
    | nil => simp at h2
    | cons b t =>
      simp only [scn] at h1
      split at h1
      · rename_i hb
        subst hb
        obtain ⟨f, s', h4, h5, _⟩ := scn_tree t 0 h1
        have h6 := h5 rfl
        subst h6
        subst h4
        refine ⟨f, rfl, ?_⟩
        have := txF_len f
        simp only [List.length_cons, List.length_append, List.length_nil] at h3
        omega
      · split at h1
        · split at h1 <;> cases h1
        · cases h1
  · rintro ⟨f, rfl, h⟩
    have hl := txH_len f
    refine ⟨⟨?_, by omega⟩, by omega⟩
    show scn 0 (40 :: (txF f ++ [41])) = true
    have h1 : scn 0 (40 :: (txF f ++ [41])) = scn (0 + 1) (txF f ++ [41]) := by simp [scn]
    rw [h1, scn_tx]
    rfl
theorem rdFo_inv : ∀ {n : Nat} {s t : By} {f : Fo}, rdFo n s = some (f, t) → s = txF f ++ t
  | 0, s, t, f, h => by simp [rdFo] at h
  | n + 1, s, t, f, h => by
    cases hp : pre [40] s with
    | none =>
      rw [rdFo_none hp] at h
      simp only [Option.some.injEq, Prod.mk.injEq] at h
      obtain ⟨rfl, rfl⟩ := h
      rfl
    | some t1 =>
      have hs := pre_some hp
      simp only [rdFo, hp] at h
      split at h
      · simp at h
      · rename_i k u h1
        have i1 := rdFo_inv h1
        split at h
        · simp at h
        · rename_i v h2
          have i2 := pre_some h2
          cases h3 : rdFo n v with
          | none => rw [h3] at h; simp at h
          | some q =>
            rw [h3] at h
            simp only [Option.map_some, Option.some.injEq, Prod.mk.injEq] at h
            obtain ⟨q1, q2⟩ := q
            have i3 := rdFo_inv h3
            obtain ⟨rfl, rfl⟩ := h
            rw [hs, i1, i2, i3]
            simp [txF]
theorem rdHA_inv {s : By} {f : Fo} (h : rdHA s = some f) : s = txH f ∧ 1 + szF f ≤ 200 := by
  unfold rdHA at h
  split at h
  · rename_i f' h1
    split at h
    · rename_i hz
      simp only [Option.some.injEq] at h
      subst h
      refine ⟨?_, hz⟩
      unfold rdHy at h1
      split at h1
      · cases h1
      · rename_i t hp
        have hs := pre_some hp
        split at h1
        · cases h1
        · rename_i k u h2
          have i2 := rdFo_inv h2
          cases h3 : pre [41] u with
          | none => rw [h3] at h1; cases h1
          | some v =>
            rw [h3] at h1
            have i3 := pre_some h3
            simp only [Option.map_some, Option.some.injEq, Prod.mk.injEq] at h1
            obtain ⟨rfl, rfl⟩ := h1
            rw [hs, i2, i3]
            rfl
    · cases h
  · cases h
theorem isH_rd (s : By) : (rdHA s).isSome = isH s := by
  cases h : rdHA s with
  | some f =>
    obtain ⟨h1, h2⟩ := rdHA_inv h
    exact ((isH_iff s).2 ⟨f, h1, h2⟩).symm
  | none =>
    cases hh : isH s with
    | false => rfl
    | true =>
      obtain ⟨f, h1, h2⟩ := (isH_iff s).1 hh
      rw [h1, rdHA_tx h2] at h
      cases h
/-- The positions of the heads below. -/
def hpos : Fo → Nat → List Nat
  | .nil, _ => []
  | .cons .nil r, o => o :: hpos r (o + 2)
  | .cons (.cons k1 k2) r, o => hpos (.cons k1 k2) (o + 1) ++ hpos r (o + 2 + 2 * szF (.cons k1 k2))
theorem hpos_cons {k r : Fo} {o : Nat} : hpos (.cons k r) o = (if szF k = 0 then [o] else hpos k (o + 1)) ++ hpos r (o + 2 + 2 * szF k) := by
  cases k with
  | nil => simp [hpos, szF]
  | cons k1 k2 => rw [hpos, if_neg (by simp only [szF]; omega)]
theorem hpos_len : ∀ (f : Fo) (o : Nat), (hpos f o).length = heF f
  | .nil, o => rfl
  | .cons k r, o => by
    rw [hpos_cons, List.length_append, hpos_len r]
    simp only [heF]
    split
    · rename_i h
      have hk : k = .nil := by cases k with
        | nil => rfl
        | cons _ _ => simp only [szF] at h; omega
      subst hk
      simp [heF]
    · rename_i h
      have hk : k ≠ .nil := fun e => h (by subst e; rfl)
      rw [hpos_len k]
      have := heF_pos hk
      omega
/-- Pairs that hold nothing, position by position. -/
def pairs : By → Nat → List Nat
  | [], _ => []
  | [_], _ => []
  | a :: b :: t, o => if a = 40 ∧ b = 41 then o :: pairs (b :: t) (o + 1) else pairs (b :: t) (o + 1)
theorem pairs_41 {t : By} {o : Nat} : pairs (41 :: t) o = pairs t (o + 1) := by
  cases t with
  | nil => rfl
  | cons b t =>
    simp only [pairs]
    rw [if_neg (by rintro ⟨h, _⟩; exact absurd h (by decide))]
theorem pairs_tx : ∀ (f : Fo) (o : Nat) (t : By), pairs (txF f ++ 41 :: t) o = hpos f o ++ pairs (41 :: t) (o + 2 * szF f)
  | .nil, o, t => by simp [txF, hpos, szF]
  | .cons k r, o, t => by
    have e : txF (.cons k r) ++ 41 :: t = 40 :: (txF k ++ 41 :: (txF r ++ 41 :: t)) := by simp [txF]
    rw [e, hpos_cons]
    cases k with
    | nil =>
      have e2 : (40 : UInt8) :: (txF .nil ++ 41 :: (txF r ++ 41 :: t)) = 40 :: 41 :: (txF r ++ 41 :: t) := rfl
      rw [e2]
      simp only [pairs]
      rw [if_pos (by simp), pairs_41, pairs_tx r (o + 1 + 1) t]
      simp only [szF]
      rw [if_pos (by trivial), show o + 2 + 2 * 0 = o + 1 + 1 by omega, show o + 2 * (1 + 0 + szF r) = o + 1 + 1 + 2 * szF r by omega]
      simp
    | cons k1 k2 =>
      have e2 : (40 : UInt8) :: (txF (.cons k1 k2) ++ 41 :: (txF r ++ 41 :: t)) = 40 :: 40 :: (txF k1 ++ 41 :: (txF k2 ++ 41 :: (txF r ++ 41 :: t))) := by simp [txF]
      have e3 : txF (.cons k1 k2) ++ 41 :: (txF r ++ 41 :: t) = 40 :: (txF k1 ++ 41 :: (txF k2 ++ 41 :: (txF r ++ 41 :: t))) := by simp [txF]
      rw [e2]
      have e4 : pairs (40 :: 40 :: (txF k1 ++ 41 :: (txF k2 ++ 41 :: (txF r ++ 41 :: t)))) o = pairs (40 :: (txF k1 ++ 41 :: (txF k2 ++ 41 :: (txF r ++ 41 :: t)))) (o + 1) := by
        rw [pairs]
        rw [if_neg (by rintro ⟨_, h⟩; exact absurd h (by decide))]
      rw [e4, ← e3, pairs_tx (.cons k1 k2) (o + 1) _, pairs_41, pairs_tx r _ t]
      have hz : szF (.cons (.cons k1 k2) r) = 1 + szF (.cons k1 k2) + szF r := rfl
      rw [hz, if_neg (by simp only [szF]; omega), show o + 2 + 2 * szF (.cons k1 k2) = o + 1 + 2 * szF (.cons k1 k2) + 1 by omega, show o + 2 * (1 + szF (.cons k1 k2) + szF r) = o + 1 + 2 * szF (.cons k1 k2) + 1 + 2 * szF r by omega]
      simp
theorem pairs_H (f : Fo) : pairs (txF f ++ [41]) 1 = hpos f 1 := by
  rw [pairs_tx]
  simp [pairs]
end Go.Proofs.YtcmjlmnfdncajaaGreatDoor.TW
/- Plain: numbers, read digit by digit as the reference does. -/
namespace Go.Proofs.YtcmjlmnfdncajaaGreatDoor.TW
def digL : Nat → By → Nat × By
  | c, [] => (c, [])
  | c, b :: s => if isD b = true ∧ c ≤ 1000 ∧ (0 < c ∨ 48 < b.toNat) then digL (10 * c + (b.toNat - 48)) s else (c, b :: s)
def fol (c : Nat) (l : By) : Nat := l.foldl (fun n b => 10 * n + (b.toNat - 48)) c
theorem fol_le (c : Nat) : ∀ l, c * 10 ^ l.length ≤ fol c l := by
  intro l
  induction l generalizing c with
  | nil => simp [fol]
  | cons b l ih =>
    have h := ih (10 * c + (b.toNat - 48))
    have e : fol c (b :: l) = fol (10 * c + (b.toNat - 48)) l := rfl
    rw [e]
    refine Nat.le_trans ?_ h
    rw [List.length_cons, Nat.pow_succ, Nat.mul_comm (10 ^ l.length) 10, ← Nat.mul_assoc]
    exact Nat.mul_le_mul_right _ (by omega)
theorem fol_ge (c : Nat) (l : By) : c ≤ fol c l := Nat.le_trans (Nat.le_mul_of_pos_right _ (Nat.pow_pos (by omega))) (fol_le c l)
theorem digL_spec : ∀ (s : By) (c : Nat), 1 ≤ c → (fol c (s.takeWhile isD) ≤ 1000 → digL c s = (fol c (s.takeWhile isD), s.dropWhile isD)) ∧ (1000 < fol c (s.takeWhile isD) → 1000 < (digL c s).1)
  | [], c, h => ⟨fun _ => rfl, fun h => h⟩
  | b :: s, c, h => by
    by_cases hb : isD b = true
    · simp only [List.takeWhile_cons, List.dropWhile_cons, hb, if_true]
      have e : fol c (b :: s.takeWhile isD) = fol (10 * c + (b.toNat - 48)) (s.takeWhile isD) := rfl
      rw [e]
      have hg := fol_ge (10 * c + (b.toNat - 48)) (s.takeWhile isD)
      by_cases hc : c ≤ 1000
      · obtain ⟨i1, i2⟩ := digL_spec s (10 * c + (b.toNat - 48)) (by omega)
        have e2 : digL c (b :: s) = digL (10 * c + (b.toNat - 48)) s := by
          simp only [digL]
          rw [if_pos ⟨hb, hc, .inl (by omega)⟩]
        rw [e2]
        exact ⟨i1, i2⟩
      · have e2 : digL c (b :: s) = (c, b :: s) := by
          simp only [digL]
          rw [if_neg (fun h => hc h.2.1)]
        rw [e2]
        exact ⟨fun h => by omega, fun _ => by show 1000 < c; omega⟩
    · have e2 : digL c (b :: s) = (c, b :: s) := by
        simp only [digL]
        rw [if_neg (fun h => hb h.1)]
      rw [e2]
      simp only [List.takeWhile_cons, List.dropWhile_cons, if_neg hb]
      exact ⟨fun _ => rfl, fun h => h⟩
theorem isD_iff (b : UInt8) : isD b = true ↔ 48 ≤ b.toNat ∧ b.toNat ≤ 57 := by
  unfold isD
  simp only [Bool.and_eq_true, decide_eq_true_eq, UInt8.le_iff_toNat_le]
  exact Iff.rfl
theorem rdN_dig (s : By) : rdN s = if 1 ≤ (digL 0 s).1 ∧ (digL 0 s).1 ≤ 1000 then some (digL 0 s) else none := by
  cases s with
  | nil => rfl
  | cons b s =>
    by_cases hb : isD b = true
    · have hb' := (isD_iff b).1 hb
      by_cases h0 : b.toNat = 48
      · have e1 : digL 0 (b :: s) = (0, b :: s) := by
          simp only [digL]
          rw [if_neg (by omega)]
        have e2 : b = 48 := UInt8.toNat_inj.1 h0
        rw [e1, if_neg (by simp)]
        unfold rdN
        rw [if_neg]
        rintro ⟨_, h, _⟩
        exact h (by rw [e2]; rfl)
      · have e1 : digL 0 (b :: s) = digL (b.toNat - 48) s := by
          simp only [digL]
          rw [if_pos ⟨hb, by omega, .inr (by omega)⟩]
          simp
        rw [e1]
        obtain ⟨i1, i2⟩ := digL_spec s (b.toNat - 48) (by omega)
        have ev : valD ((b :: s).takeWhile isD) = fol (b.toNat - 48) (s.takeWhile isD) := by
          simp only [List.takeWhile_cons, hb, if_true]
          show fol 0 (b :: s.takeWhile isD) = _
          have : fol 0 (b :: s.takeWhile isD) = fol (10 * 0 + (b.toNat - 48)) (s.takeWhile isD) := rfl
          rw [this, show 10 * 0 + (b.toNat - 48) = b.toNat - 48 by omega]
        have el : ((b :: s).takeWhile isD).length = (s.takeWhile isD).length + 1 := by simp [List.takeWhile_cons, hb]
        have ed : (b :: s).dropWhile isD = s.dropWhile isD := by simp [List.dropWhile_cons, hb]
        have hg := fol_ge (b.toNat - 48) (s.takeWhile isD)
        have hp := fol_le (b.toNat - 48) (s.takeWhile isD)
        unfold rdN
        rw [ev, el, ed]
        by_cases h1 : fol (b.toNat - 48) (s.takeWhile isD) ≤ 1000
        · rw [i1 h1]
          have hl : (s.takeWhile isD).length ≤ 3 := by
            apply Classical.byContradiction
            intro hn
            have h4 : 10 ^ 4 ≤ 10 ^ (s.takeWhile isD).length := Nat.pow_le_pow_right (by omega) (by omega)
            have h5 : 1 * 10 ^ (s.takeWhile isD).length ≤ (b.toNat - 48) * 10 ^ (s.takeWhile isD).length := Nat.mul_le_mul_right _ (by omega)
            have h6 : (10 : Nat) ^ 4 = 10000 := rfl
            omega
          rw [if_pos ⟨⟨by omega, by omega⟩, fun e => by
            simp only [List.head?_cons, Option.some.injEq] at e
            rw [e] at h0
            exact h0 rfl, h1⟩, if_pos ⟨by show 1 ≤ fol _ _; omega, h1⟩]
        · have := i2 (by omega)
          rw [if_neg (fun h => h1 h.2.2), if_neg (by omega)]
    · have e1 : digL 0 (b :: s) = (0, b :: s) := by
        simp only [digL]
        rw [if_neg (fun h => hb h.1)]
      rw [e1, if_neg (by simp)]
      unfold rdN
      rw [if_neg]
      rintro ⟨⟨h, _⟩, _⟩
      simp [List.takeWhile_cons, hb] at h
/-- Powers, with a bound. -/
def cap61 (x : Nat) : Nat := min x 2305843009213693952
theorem cap_mul (x b : Nat) (hb : 1 ≤ b) : cap61 (cap61 x * b) = cap61 (x * b) := by
  unfold cap61
  by_cases h : x ≤ 2305843009213693952
  · rw [show min x 2305843009213693952 = x by omega]
  · have h1 : 2305843009213693952 * 1 ≤ 2305843009213693952 * b := Nat.mul_le_mul_left _ hb
    have h2 : 2305843009213693952 * b ≤ x * b := Nat.mul_le_mul_right _ (by omega)
    rw [show min x 2305843009213693952 = 2305843009213693952 by omega]
    omega
theorem cap_add (x y : Nat) : cap61 (cap61 x + cap61 y) = cap61 (x + y) := by unfold cap61; omega
theorem pow_big {b N : Nat} (hb : 2 ≤ b) (hN : N = 2305843009213693952) : N ≤ b ^ N := by
  have h1 : 2 ^ 61 ≤ b ^ 61 := Nat.pow_le_pow_left hb 61
  have h2 : b ^ 61 ≤ b ^ N := Nat.pow_le_pow_right (by omega) (by omega)
  have h3 : (2 : Nat) ^ 61 = 2305843009213693952 := by decide
  omega
theorem cap61_pow {b d e : Nat} (hb : 2 ≤ b) (hd : 1 ≤ d) : cap61 (d * b ^ cap61 e) = cap61 (d * b ^ e) := by
  obtain ⟨N, hN⟩ : ∃ N : Nat, N = 2305843009213693952 := ⟨_, rfl⟩
  by_cases h : e ≤ N
  · rw [show cap61 e = e by unfold cap61; omega]
  · rw [show cap61 e = N by unfold cap61; omega]
    have h1 := pow_big (b := b) hb hN
    have h2 : b ^ N ≤ b ^ e := Nat.pow_le_pow_right (by omega) (by omega)
    have h3 : 1 * b ^ N ≤ d * b ^ N := Nat.mul_le_mul_right _ hd
    have h4 : 1 * b ^ e ≤ d * b ^ e := Nat.mul_le_mul_right _ hd
    generalize b ^ N = p at *
    generalize b ^ e = q at *
    generalize d * p = p' at *
    generalize d * q = q' at *
    unfold cap61
    omega
end Go.Proofs.YtcmjlmnfdncajaaGreatDoor.TW
/- Plain: a string read from a place on. -/
namespace Go.Proofs.YtcmjlmnfdncajaaGreatDoor.TW
theorem pre_eq : ∀ (p l : By), pre p l = if l.take p.length = p then some (l.drop p.length) else none
  | [], l => by simp [pre]
  | a :: p, [] => by simp [pre]
  | a :: p, b :: s => by
    simp only [pre, List.length_cons, List.take_succ_cons, List.drop_succ_cons, List.cons.injEq]
    rw [pre_eq p s]
    by_cases h : a = b
    · subst h; simp
    · rw [if_neg h, if_neg (fun e => h e.1.symm)]
theorem pre_sub {p s : By} {i : Nat} (q : Nat) (hp : p.length = q) : pre p (s.drop i) = if (s.take (i + q)).drop i = p then some (s.drop (i + q)) else none := by
  subst hp
  rw [pre_eq, List.drop_take, List.drop_drop, show i + p.length - i = p.length by omega]
theorem pre_short {p s : By} {i : Nat} (h : s.length < i + p.length) (hi : i ≤ s.length) : pre p (s.drop i) = none := by
  rw [pre_eq, if_neg]
  intro e
  have := congrArg List.length e
  simp at this
  omega
theorem drop_at {s : By} {i : Nat} (h : i < s.length) : s.drop i = s.getD i 0 :: s.drop (i + 1) := by
  rw [List.drop_eq_getElem_cons h]
  simp [List.getD_eq_getElem?_getD, h]
theorem u8_ext {a : UInt8} {k : Nat} (hk : k < 256) : a = UInt8.ofNat k ↔ a.toNat = k := by
  constructor
  · intro h; rw [h]; exact UInt8.toNat_ofNat_of_lt' hk
  · intro h; rw [← h]; simp
theorem rdE_zero {f : By → Option (Od × By)} {s : By} {i : Nat} (h : i < s.length) (h0 : (s.getD i 0).toNat = 48) : rdE f (s.drop i) = some (.nil, s.drop (i + 1)) := by
  rw [drop_at h, show s.getD i 0 = 48 from UInt8.toNat_inj.1 h0]; rfl
theorem rdE_else {f : By → Option (Od × By)} {s : By} {i : Nat} (h : i < s.length → (s.getD i 0).toNat ≠ 48) : rdE f (s.drop i) = f (s.drop i) := by
  by_cases hi : i < s.length
  · rw [drop_at hi]
    unfold rdE
    split
    · rename_i t e
      simp only [List.cons.injEq] at e
      exact absurd (by rw [e.1]; rfl) (h hi)
    · rfl
  · rw [List.drop_eq_nil_of_le (by omega)]; rfl
theorem dig_go {s : By} {i c : Nat} (h : i < s.length) (h1 : 48 ≤ (s.getD i 0).toNat) (h2 : (s.getD i 0).toNat ≤ 57) (h3 : c ≤ 1000) (h4 : 0 < c ∨ 48 < (s.getD i 0).toNat) : digL c (s.drop i) = digL (10 * c + ((s.getD i 0).toNat - 48)) (s.drop (i + 1)) := by
  rw [drop_at h]
  simp only [digL]
  rw [if_pos ⟨(isD_iff _).2 ⟨h1, h2⟩, h3, h4⟩]
theorem dig_stop {s : By} {i c : Nat} (h : ¬ (i < s.length ∧ 48 ≤ (s.getD i 0).toNat ∧ (s.getD i 0).toNat ≤ 57 ∧ c ≤ 1000 ∧ (0 < c ∨ 48 < (s.getD i 0).toNat))) : digL c (s.drop i) = (c, s.drop i) := by
  by_cases hi : i < s.length
  · rw [drop_at hi]
    simp only [digL]
    rw [if_neg (fun ⟨g1, g2, g3⟩ => h ⟨hi, ((isD_iff _).1 g1).1, ((isD_iff _).1 g1).2, g2, g3⟩)]
  · rw [List.drop_eq_nil_of_le (by omega)]; rfl
theorem plus_at {s : By} {i : Nat} (h : i < s.length) (h1 : (s.getD i 0).toNat = 43) : pre [43] (s.drop i) = some (s.drop (i + 1)) := by
  rw [drop_at h, show s.getD i 0 = 43 from UInt8.toNat_inj.1 h1]; rfl
theorem plus_no {s : By} {i : Nat} (h : i < s.length → (s.getD i 0).toNat ≠ 43) : pre [43] (s.drop i) = none := by
  by_cases hi : i < s.length
  · rw [drop_at hi]
    simp only [pre]
    rw [if_neg (fun e => h hi (by rw [← e]; rfl))]
  · rw [List.drop_eq_nil_of_le (by omega)]; rfl
end Go.Proofs.YtcmjlmnfdncajaaGreatDoor.TW
/- Lists of strings, read. -/
namespace Go.Proofs.YtcmjlmnfdncajaaGreatDoor.VW
open Go Go.RowKit
abbrev SlT (w : World) (v : Value) (xs : List (List UInt8)) : Prop := Sl S [] w v xs
section
variable {P : Program} [hT : Tab P] {n : Nat} {ds : List Deferred} {Φ : Post} {k : List It} {ρ : E} {w : World} {all : Array Oper} {l : List Oper} {md : Option (List Oper)} {s : Nat} {F : World → Prop} {π : List (Nat × Nat)} {L : List Bool}
theorem z_TJ {o1 o2 : Oper} {d1 d2 t t' e : Nat} {x y : Operand} {v : Value} {i : Nat} {xs : List (List UInt8)} {w0 : World} {c1 c2 : Bool} (ho : o1.op = .indexAddr t x y := by exact rfl) (hd1 : o1.dst = some d1 := by exact rfl) (hg1 : gdB all ρ o1.guard = some c1 := by exact rfl) (hc1 : c1 = true := by exact rfl) (ho2 : o2.op = .load t' (.tmp d1) := by exact rfl) (hd2 : o2.dst = some d2 := by exact rfl) (hg2 : ∀ p, gdB all ((d1, .pointer p) :: ρ) o2.guard = some c2 := by exact fun _ => rfl) (hc2 : c2 = true := by exact rfl) (ht : tyD P t = some (.slice e) := by exact rfl) (hs : tyS P e = some 1 := by exact rfl) (ha : tyAgg P t' = some false := by exact rfl) (hx : ev ρ x = some v := by exact rfl) (hy : ev ρ y = some (.int .i64 (i : Int)) := by exact rfl) (hsl : SlT w0 v xs := by assumption) (hb : Below w0.heap.size w0 w := by first | assumption | exact Below.refl _ _) (h1 : i < xs.length := by omega) (kk : ∀ p, Ops md P n ds all k Φ l ((d2, S (xs.getD i [])) :: (d1, p) :: ρ) w) : Ops md P n ds all k Φ (o1 :: o2 :: l) ρ w := Ops.rdBn ho hd1 hg1 hc1 ho2 hd2 hg2 hc2 ht hs ha hx hy hsl hb h1 kk
theorem z_TL {o1 o2 : Oper} {d1 d2 t t' e : Nat} {x y : Operand} {v : Value} {i : Int} {xs : List (List UInt8)} {w0 : World} {c1 c2 : Bool} (ho : o1.op = .indexAddr t x y := by exact rfl) (hd1 : o1.dst = some d1 := by exact rfl) (hg1 : gdB all ρ o1.guard = some c1 := by exact rfl) (hc1 : c1 = true := by exact rfl) (ho2 : o2.op = .load t' (.tmp d1) := by exact rfl) (hd2 : o2.dst = some d2 := by exact rfl) (hg2 : ∀ p, gdB all ((d1, .pointer p) :: ρ) o2.guard = some c2 := by exact fun _ => rfl) (hc2 : c2 = true := by exact rfl) (ht : tyD P t = some (.slice e) := by exact rfl) (hs : tyS P e = some 1 := by exact rfl) (ha : tyAgg P t' = some false := by exact rfl) (hx : ev ρ x = some v := by exact rfl) (hy : ev ρ y = some (.int .i64 i) := by exact rfl) (hsl : SlT w0 v xs := by assumption) (hb : Below w0.heap.size w0 w := by first | assumption | exact Below.refl _ _) (h0 : 0 ≤ i := by omega) (h1 : i < xs.length := by omega) (kk : ∀ p, Ops md P n ds all k Φ l ((d2, S (xs.getD i.toNat [])) :: (d1, p) :: ρ) w) : Ops md P n ds all k Φ (o1 :: o2 :: l) ρ w := Ops.rdB ho hd1 hg1 hc1 ho2 hd2 hg2 hc2 ht hs ha hx hy hsl hb h0 h1 kk
theorem x_TJ {i1 i2 d1 d2 t t' e : Nat} {o1 o2 : Oper} {x y : Operand} {v : Value} {i : Nat} {xs : List (List UInt8)} {w0 : World} {c1 c2 : Bool} (h1 : all[i1]? = some o1 := by exact rfl) (ho : o1.op = .indexAddr t x y := by exact rfl) (hd1 : o1.dst = some d1 := by exact rfl) (hg1 : gdB all ρ o1.guard = some c1 := by exact rfl) (hc1 : c1 = true := by exact rfl) (h2 : all[i2]? = some o2 := by exact rfl) (ho2 : o2.op = .load t' (.tmp d1) := by exact rfl) (hd2 : o2.dst = some d2 := by exact rfl) (hg2 : ∀ p, gdB all ((d1, .pointer p) :: ρ) o2.guard = some c2 := by exact fun _ => rfl) (hc2 : c2 = true := by exact rfl) (ht : tyD P t = some (.slice e) := by exact rfl) (hs : tyS P e = some 1 := by exact rfl) (ha : tyAgg P t' = some false := by exact rfl) (hx : ev ρ x = some v := by exact rfl) (hy : ev ρ y = some (.int .i64 (i : Int)) := by exact rfl) (hsl : SlT w0 v xs := by assumption) (hF : ∀ w, F w → Below w0.heap.size w0 w := by first | exact fun _ h => h | (intro _ h; exact Below.via (by assumption) h)) (hi : i < xs.length := by omega) (kk : ∀ p, OrdA P n ds all k Φ s F π ((L.set i1 true).set i2 true) ((d2, S (xs.getD i [])) :: (d1, p) :: ρ)) : OrdA P n ds all k Φ s F ((i1, 1) :: (i2, 2) :: π) L ρ := OrdA.rdSn h1 ho hd1 hg1 hc1 h2 ho2 hd2 hg2 hc2 ht hs ha hx hy hsl hF hi kk
theorem x_TL {i1 i2 d1 d2 t t' e : Nat} {o1 o2 : Oper} {x y : Operand} {v : Value} {i : Int} {xs : List (List UInt8)} {w0 : World} {c1 c2 : Bool} (h1 : all[i1]? = some o1 := by exact rfl) (ho : o1.op = .indexAddr t x y := by exact rfl) (hd1 : o1.dst = some d1 := by exact rfl) (hg1 : gdB all ρ o1.guard = some c1 := by exact rfl) (hc1 : c1 = true := by exact rfl) (h2 : all[i2]? = some o2 := by exact rfl) (ho2 : o2.op = .load t' (.tmp d1) := by exact rfl) (hd2 : o2.dst = some d2 := by exact rfl) (hg2 : ∀ p, gdB all ((d1, .pointer p) :: ρ) o2.guard = some c2 := by exact fun _ => rfl) (hc2 : c2 = true := by exact rfl) (ht : tyD P t = some (.slice e) := by exact rfl) (hs : tyS P e = some 1 := by exact rfl) (ha : tyAgg P t' = some false := by exact rfl) (hx : ev ρ x = some v := by exact rfl) (hy : ev ρ y = some (.int .i64 i) := by exact rfl) (hsl : SlT w0 v xs := by assumption) (hF : ∀ w, F w → Below w0.heap.size w0 w := by first | exact fun _ h => h | (intro _ h; exact Below.via (by assumption) h)) (h0 : 0 ≤ i := by omega) (hi : i < xs.length := by omega) (kk : ∀ p, OrdA P n ds all k Φ s F π ((L.set i1 true).set i2 true) ((d2, S (xs.getD i.toNat [])) :: (d1, p) :: ρ)) : OrdA P n ds all k Φ s F ((i1, 1) :: (i2, 2) :: π) L ρ := OrdA.rdS h1 ho hd1 hg1 hc1 h2 ho2 hd2 hg2 hc2 ht hs ha hx hy hsl hF h0 hi kk
end
end Go.Proofs.YtcmjlmnfdncajaaGreatDoor.VW
namespace Go.Proofs.YtcmjlmnfdncajaaGreatDoor
open Go Go.RowKit Go.Proofs.YtcmjlmnfdncajaaGreatDoor.VW Go.Proofs.YtcmjlmnfdncajaaGreatDoor.TW
attribute [local irreducible] W Ops OrdA VW.Ord OrdX Wi OpsI OrdF
theorem scn_at {s : List UInt8} {o i : Nat} (h : i < s.length) : scn o (s.drop i) = if (s.getD i 0).toNat = 40 then scn (o + 1) (s.drop (i + 1)) else if (s.getD i 0).toNat = 41 then (if o ≤ 1 ∧ i + 1 < s.length then false else match o with | 0 => false | o + 1 => scn o (s.drop (i + 1))) else false := by
  rw [drop_at h]
  have hd : s.drop (i + 1) ≠ [] ↔ i + 1 < s.length := by
    constructor
    · intro h1
      apply Classical.byContradiction
      intro h2
      exact h1 (List.drop_eq_nil_of_le (by omega))
    · intro h1 h2
      have := congrArg List.length h2
      simp at this
      omega
  have e40 : (s.getD i 0 = 40) ↔ (s.getD i 0).toNat = 40 := ⟨fun h => by rw [h]; rfl, fun h => UInt8.toNat_inj.1 h⟩
  have e41 : (s.getD i 0 = 41) ↔ (s.getD i 0).toNat = 41 := ⟨fun h => by rw [h]; rfl, fun h => UInt8.toNat_inj.1 h⟩
  have hx : scn o (s.getD i 0 :: s.drop (i + 1)) = if s.getD i 0 = 40 then scn (o + 1) (s.drop (i + 1)) else if s.getD i 0 = 41 then (if o ≤ 1 ∧ s.drop (i + 1) ≠ [] then false else match o with | 0 => false | o + 1 => scn o (s.drop (i + 1))) else false := by
    cases o <;> rfl
  rw [hx]
  simp only [hd, e40, e41]
set_option maxHeartbeats 4000000 in
theorem rHydra_c {w : World} {s : List UInt8} (hs : s.length ≤ 4294967295) : Calls Tryz.prog 46 #[S s] w (Ret fun r w' => r = .bool (isH s) ∧ w' = w) := by
  refine calls_W (vs := [_]) Tryz.func46 rfl (by kernel_rfl) rfl ?_
  (repeat (first | with_reducible refine W.seq ?_ | with_reducible refine Ops.nil ?_ | with_reducible refine W.region ?_ | refine z_p (kk := ?_) | with_reducible refine W.block ?_))
  refine W.loop (fun m ρ w1 => ∃ (i : Nat) (z : Int), m = s.length - i ∧ i ≤ s.length ∧ ρ = [(0, S s), (3, .int .i64 z), (4, .int .i64 (i : Int))] ∧ w1 = w ∧ ((∃ o : Nat, z = (o : Int) ∧ o ≤ i ∧ scn 0 s = scn o (s.drop i)) ∨ (z = -1 ∧ i = s.length ∧ scn 0 s = false)))
    ⟨_, _, ⟨0, 0, rfl, Nat.zero_le _, rfl, rfl, .inl ⟨0, rfl, Nat.le_refl _, rfl⟩⟩, (by repeat (first | exact trivial | refine And.intro rfl ?_))⟩ ?_
  rintro m ρ w1 ⟨i, z, rfl, hi, rfl, rfl, hz⟩
  by_cases hil : i < s.length
  · rcases hz with ⟨o, rfl, ho, hsc⟩ | ⟨_, h, _⟩
    rotate_left
    · omega
    rw [scn_at hil] at hsc
    generalize hx : (s.getD i 0).toNat = x at *
    (repeat (first | with_reducible refine W.seq ?_ | with_reducible refine Ops.nil ?_ | with_reducible refine W.region ?_ | refine z_p (kk := ?_) | refine z_ev (EV.slen rfl rfl rfl) (kk := ?_)))
    refine W.condT rfl (by first | (simp; done) | (simp; omega)) ?_
    (repeat (first | with_reducible refine W.seq ?_ | with_reducible refine Ops.nil ?_ | with_reducible refine W.region ?_ | refine z_p (kk := ?_) | with_reducible refine W.skip ?_ | with_reducible refine W.block ?_ | refine z_ev (EV.sidx rfl rfl rfl rfl (by omega)) (kk := ?_)))
    rw [hx]
    skip
    by_cases h40 : x = 40
    · subst h40
      rw [if_pos rfl] at hsc
      refine W.condT rfl (by first | rfl | assumption | (simp only [bnf] <;> omega) | (simp only [*, bnf]; done) | fail) ?_
      (repeat (first | with_reducible refine W.seq ?_ | with_reducible refine Ops.nil ?_ | with_reducible refine W.region ?_ | refine z_p (kk := ?_) | refine z_a (kk := ?_) | refine z_n (kk := ?_) | with_reducible refine W.endb ?_))
      refine W.condF rfl (by first | rfl | (simp; done) | (simp; omega)) ?_
      (repeat (first | with_reducible refine Ops.nil ?_ | with_reducible refine W.region ?_ | refine z_p (kk := ?_) | refine z_a (kk := ?_) | with_reducible refine W.skip ?_ | with_reducible refine W.endb ?_))
      exact W.endl ⟨_, _, ⟨⟨i + 1, (o : Int) + 1, rfl, by omega, rfl, rfl, .inl ⟨o + 1, by omega, by omega, hsc⟩⟩, by omega⟩, (by repeat (first | exact trivial | refine And.intro rfl ?_))⟩
    · rw [if_neg h40] at hsc
      have f1 : (((x : Nat) : Int) == 40) = false := by rw [beq_eq_false_iff_ne]; omega
      refine W.condF rfl (by first | rfl | assumption | (simp; done)) ?_
      (repeat (first | with_reducible refine W.seq ?_ | with_reducible refine Ops.nil ?_ | with_reducible refine W.region ?_ | refine z_p (kk := ?_)))
      by_cases h41 : x = 41
      · subst h41
        rw [if_pos rfl] at hsc
        refine W.condT rfl (by first | rfl | assumption | (simp only [bnf] <;> omega) | (simp only [*, bnf]; done) | fail) ?_
        (repeat (first | with_reducible refine W.seq ?_ | with_reducible refine Ops.nil ?_ | with_reducible refine W.region ?_ | refine z_p (kk := ?_) | refine z_a (kk := ?_) | with_reducible refine W.endb ?_))
        by_cases h1 : o ≤ 1 ∧ i + 1 < s.length
        · rw [if_pos h1] at hsc
          have f2 : decide ((o : Int) - 1 < 1) = true := decide_eq_true (by omega)
          (repeat (first | with_reducible refine Ops.nil ?_ | refine z_p (kk := ?_) | refine z_a (kk := ?_) | refine z_y (kk := ?_) | refine z_ev (EV.slen rfl rfl rfl) (kk := ?_) | refine z_h (kk := ?_)))
          refine W.condT rfl (by first | rfl | assumption | (simp; done) | (simp; omega)) ?_
          (repeat (first | with_reducible refine W.seq ?_ | with_reducible refine Ops.nil ?_ | with_reducible refine W.region ?_ | refine z_p (kk := ?_)))
          refine W.fret rfl ⟨?_, rfl⟩
          unfold isH
          rw [hsc]; rfl
        · rw [if_neg h1] at hsc
          by_cases h2 : o ≤ 1
          · have f2 : decide ((o : Int) - 1 < 1) = true := decide_eq_true (by omega)
            have f3 : decide ((i : Int) + 1 < (s.length : Int)) = false := decide_eq_false (by omega)
            (repeat (first | with_reducible refine Ops.nil ?_ | refine z_p (kk := ?_) | refine z_a (kk := ?_) | refine z_y (kk := ?_) | refine z_ev (EV.slen rfl rfl rfl) (kk := ?_) | refine z_h (kk := ?_)))
            refine W.condF rfl (by first | rfl | assumption | (simp; done) | (simp; omega)) ?_
            (repeat (first | with_reducible refine Ops.nil ?_ | with_reducible refine W.region ?_ | refine z_p (kk := ?_) | refine z_a (kk := ?_) | with_reducible refine W.skip ?_ | with_reducible refine W.endb ?_))
            refine W.endl ⟨_, _, ⟨⟨i + 1, (o : Int) - 1, rfl, by omega, rfl, rfl, ?_⟩, by omega⟩, (by repeat (first | exact trivial | refine And.intro rfl ?_))⟩
            cases o with
            | zero => exact .inr ⟨by omega, by omega, hsc⟩
            | succ o => exact .inl ⟨o, by omega, by omega, hsc⟩
          · have f2 : decide ((o : Int) - 1 < 1) = false := decide_eq_false (by omega)
            (repeat (first | with_reducible refine Ops.nil ?_ | refine z_p (kk := ?_) | refine z_n (kk := ?_) | refine z_g (kk := ?_)))
            refine W.condF rfl (by first | rfl | assumption | (simp; done) | (simp; omega)) ?_
            (repeat (first | with_reducible refine Ops.nil ?_ | with_reducible refine W.region ?_ | refine z_p (kk := ?_) | refine z_a (kk := ?_) | with_reducible refine W.skip ?_ | with_reducible refine W.endb ?_))
            refine W.endl ⟨_, _, ⟨⟨i + 1, (o : Int) - 1, rfl, by omega, rfl, rfl, ?_⟩, by omega⟩, (by repeat (first | exact trivial | refine And.intro rfl ?_))⟩
            cases o with
            | zero => omega
            | succ o => exact .inl ⟨o, by omega, by omega, hsc⟩
      · rw [if_neg h41] at hsc
        have f2 : (((x : Nat) : Int) == 41) = false := by rw [beq_eq_false_iff_ne]; omega
        refine W.condF rfl (by first | rfl | assumption | (simp; done)) ?_
        (repeat (first | with_reducible refine W.seq ?_ | with_reducible refine Ops.nil ?_ | with_reducible refine W.region ?_ | refine z_p (kk := ?_)))
        refine W.fret rfl ⟨?_, rfl⟩
        unfold isH
        rw [hsc]; rfl
  · have hil2 : i = s.length := by omega
    subst hil2
    have hzz : ∃ g : Bool, (z == 0) = g ∧ scn 0 s = g := by
      rcases hz with ⟨o, rfl, _, hsc⟩ | ⟨rfl, _, hsc⟩
      · rw [List.drop_eq_nil_of_le (Nat.le_refl _)] at hsc
        refine ⟨_, rfl, hsc.trans ?_⟩
        cases o with
        | zero => rfl
        | succ o => simp [scn]; omega
      · exact ⟨false, rfl, hsc⟩
    obtain ⟨g, hg, hsc⟩ := hzz
    have hH : isH s = (g && decide (2 ≤ s.length) && decide (s.length ≤ 400)) := by unfold isH; rw [hsc]
    (repeat (first | with_reducible refine W.seq ?_ | with_reducible refine Ops.nil ?_ | with_reducible refine W.region ?_ | refine z_p (kk := ?_) | refine z_ev (EV.slen rfl rfl rfl) (kk := ?_)))
    refine W.condF rfl (by first | (simp; done) | (simp; omega)) ?_
    cases g with
    | false =>
      (repeat (first | with_reducible refine W.seq ?_ | with_reducible refine Ops.nil ?_ | with_reducible refine W.region ?_ | refine z_p (kk := ?_) | refine z_n (kk := ?_) | refine W.exit rfl ?_ | refine z_g (kk := ?_)))
      refine W.fret rfl ⟨?_, rfl⟩
      first | (rw [hH]; rfl) | (rw [hH, hg]; rfl)
    | true =>
      by_cases h2 : 2 ≤ s.length
      · have f2 : decide ((s.length : Int) ≥ 2) = true := decide_eq_true (by omega)
        (repeat (first | with_reducible refine W.seq ?_ | with_reducible refine Ops.nil ?_ | with_reducible refine W.region ?_ | refine z_p (kk := ?_) | refine z_y (kk := ?_) | refine W.exit rfl ?_ | refine z_ev (EV.slen rfl rfl rfl) (kk := ?_) | refine z_h (kk := ?_)))
        refine W.fret rfl ⟨?_, rfl⟩
        rw [hH, decide_eq_true h2]
        have : decide ((s.length : Int) ≤ 400) = decide (s.length ≤ 400) := decide_eq_decide.2 (by omega)
        rw [← this]; rfl
      · have f2 : decide ((s.length : Int) ≥ 2) = false := decide_eq_false (by omega)
        (repeat (first | with_reducible refine W.seq ?_ | with_reducible refine Ops.nil ?_ | with_reducible refine W.region ?_ | refine z_p (kk := ?_) | refine z_y (kk := ?_) | refine z_n (kk := ?_) | refine W.exit rfl ?_ | refine z_ev (EV.slen rfl rfl rfl) (kk := ?_) | refine z_g (kk := ?_) | refine z_h (kk := ?_)))
        refine W.fret rfl ⟨?_, rfl⟩
        first | (rw [hH, decide_eq_false h2]; rfl) | (rw [hH, decide_eq_false h2, f2]; rfl)
end Go.Proofs.YtcmjlmnfdncajaaGreatDoor
namespace Go.Proofs.YtcmjlmnfdncajaaGreatDoor
open Go Go.RowKit Go.Proofs.YtcmjlmnfdncajaaGreatDoor.VW Go.Proofs.YtcmjlmnfdncajaaGreatDoor.TW
attribute [local irreducible] W Ops OrdA VW.Ord OrdX Wi OpsI OrdF
theorem cmp_cut {e e' r r' : Od} {c c' : Nat} : cmpO (.cons e c r) (.cons e' c' r') = if cmpO e e' = 0 then (if c < c' then -1 else if c' < c then 1 else cmpO r r') else cmpO e e' := rfl
set_option maxHeartbeats 4000000 in
theorem refCompare_c : ∀ (n : Nat) {S S' : Nat → Prop} {w : World} {va vb : Value} {a b : Od}, szO a ≤ n → OM S w va a → OM S' w vb b →
    Calls Tryz.prog 56 #[va, vb] w (Ret fun r w' => r = .int .i64 (cmpO a b) ∧ Below w.heap.size w w') := by
  intro n
  induction n using Nat.strongRecOn with
  | _ n ih =>
  intro S S' w va vb a b hn hA hB
  obtain ⟨la, hRa, hAa⟩ := hA
  obtain ⟨lb, hRb, hAb⟩ := hB
  have hla := hAa.len
  have hlb := hAb.len
  have hab := hRa.bd
  have hbb := hRb.bd
  obtain ⟨Aa, ca, rfl⟩ := hRa.sh
  obtain ⟨Ab, cb, rfl⟩ := hRb.sh
  refine calls_W (vs := [_, _]) Tryz.func56 rfl (by kernel_rfl) rfl ?_
  (repeat (first | with_reducible refine W.seq ?_ | with_reducible refine Ops.nil ?_ | with_reducible refine W.region ?_ | refine z_p (kk := ?_) | with_reducible refine W.block ?_))
  refine W.loop (fun m ρ w' => ∃ (i : Nat), m = la.length - i ∧ i ≤ la.length ∧ i ≤ lb.length ∧ Below w.heap.size w w' ∧ cmpO a b = cmpO (dropO a i) (dropO b i) ∧ ρ = [(0, .slice Aa la.length ca), (1, .slice Ab lb.length cb), (5, .int .i64 i)])
    ⟨_, _, ⟨0, rfl, by omega, by omega, Below.refl _ _, by rw [dropO_zero, dropO_zero], rfl⟩, (by repeat (first | exact trivial | refine And.intro rfl ?_))⟩ ?_
  rintro m ρ w1 ⟨i, rfl, hi, hib, hb1, hcm, rfl⟩
  have hfin : i = la.length ∨ i = lb.length → max (-1) (min 1 ((la.length : Int) - lb.length)) = cmpO a b := by
    intro hor
    rw [hcm]
    by_cases h1 : i = la.length
    · subst h1
      rw [hla, dropO_len, ← hla]
      by_cases h2 : la.length < lenO b
      · rw [dropO_cons h2]; show _ = (-1 : Int); omega
      · rw [show la.length = lenO b by omega, dropO_len]; show _ = (0 : Int); omega
    · have h2 : i = lb.length := by omega
      subst h2
      rw [dropO_cons (o := a) (by omega), hlb, dropO_len]
      show _ = (1 : Int)
      omega
  by_cases hil : i < la.length
  · by_cases hil2 : i < lb.length
    · (repeat (first | with_reducible refine W.seq ?_ | with_reducible refine Ops.nil ?_ | with_reducible refine W.region ?_ | refine z_p (kk := ?_) | refine z_y (kk := ?_) | refine z_l (kk := ?_) | refine z_h (kk := ?_)))
      refine W.condT rfl (by first | (simp; done) | (simp; omega)) ?_
      obtain ⟨a2, aM⟩ := hAa.at_ (i := i) (by omega)
      obtain ⟨b2, bM⟩ := hAb.at_ (i := i) (by omega)
      have hsz := nthE_sz (o := a) (i := i) (by omega)
      have hcs := dropO_cons (o := a) (i := i) (by omega)
      have hcs2 := dropO_cons (o := b) (i := i) (by omega)
      rw [hcs, hcs2, cmp_cut] at hcm
      have hRa1 := hRa.below hb1
      have hRb1 := hRb.below hb1
      have hb11 : Below w1.heap.size w1 w1 := Below.refl _ _
      (repeat (first | with_reducible refine W.seq ?_ | with_reducible refine W.skip ?_ | with_reducible refine W.block ?_))
      refine W.ordA 99 [(0, 1), (1, 1), (2, 1), (3, 1), (4, 2), (5, 1), (6, 1), (7, 1), (8, 1), (9, 2), (10, 2), (11, 1)] rfl (by kernel_rfl) rfl (by kernel_rfl) (fun _ _ _ h => h) ?_
      (repeat (first | refine x_p (kk := ?_) | refine x_R0 (kk := fun _ _ => ?_)))
      refine OrdA.call rfl rfl rfl rfl rfl rfl rfl (fun w' hw' => Calls.via hw' (ih _ (show szO (nthE a i) < n by omega) (Nat.le_refl _) (aM.below (Below.via hb1 hw')) (bM.below (Below.via hb1 hw')))) ?_
      (repeat (first | refine x_p (kk := ?_)))
      refine OrdA.nil (fun w2 hb2 => ?_)
      have hb02 := Below.via hb1 hb2
      have hRa2 := hRa.below hb02
      have hRb2 := hRb.below hb02
      have hb22 : Below w2.heap.size w2 w2 := Below.refl _ _
      clear hRa1 hRb1 hb11
      by_cases hz : cmpO (nthE a i) (nthE b i) = 0
      · rw [if_pos hz] at hcm
        rw [hz]
        (repeat (first | with_reducible refine W.seq ?_ | with_reducible refine Ops.nil ?_ | with_reducible refine W.region ?_ | refine z_p (kk := ?_)))
        refine W.condF rfl (by first | rfl | assumption | (simp only [bnf] <;> omega) | (simp only [*, bnf]; done) | fail) ?_
        (repeat (first | with_reducible refine W.seq ?_ | with_reducible refine W.skip ?_))
        refine W.ordA 99 [(0, 1), (1, 1), (2, 1), (3, 1), (4, 2), (5, 1), (6, 1), (7, 1), (8, 1), (9, 2), (10, 1)] rfl (by kernel_rfl) rfl (by kernel_rfl) (fun _ _ _ h => h) ?_
        (repeat (first | refine x_p (kk := ?_) | refine x_R1 (kk := fun _ _ => ?_)))
        rw [a2, b2]
        refine OrdA.nil (fun w3 hb3 => ?_)
        have hb03 := Below.via hb02 hb3
        have hRa3 := hRa.below hb03
        have hRb3 := hRb.below hb03
        have hb33 : Below w3.heap.size w3 w3 := Below.refl _ _
        clear hRa2 hRb2 hb22
        by_cases hc : nthC a i = nthC b i
        · rw [if_neg (by omega), if_neg (by omega)] at hcm
          refine W.condF rfl (by simp [hc]) ?_
          (repeat (first | with_reducible refine Ops.nil ?_ | with_reducible refine W.region ?_ | refine z_p (kk := ?_) | refine z_a (kk := ?_) | with_reducible refine W.skip ?_ | with_reducible refine W.endb ?_))
          exact W.endl ⟨_, _, ⟨⟨i + 1, rfl, by omega, by omega, hb03, hcm, rfl⟩, by omega⟩, (by repeat (first | exact trivial | refine And.intro rfl ?_))⟩
        · refine W.condT rfl (by first | (simp; done) | (simp; omega)) ?_
          (repeat (first | with_reducible refine W.seq ?_))
          refine W.ordA 99 [(0, 1), (1, 1), (2, 1), (3, 1), (4, 2), (5, 1), (6, 1), (7, 1), (8, 1), (9, 2), (10, 1)] rfl (by kernel_rfl) rfl (by kernel_rfl) (fun _ _ _ h => h) ?_
          (repeat (first | refine x_p (kk := ?_) | refine x_R1 (kk := fun _ _ => ?_)))
          rw [a2, b2]
          refine OrdA.nil (fun w4 hb4 => ?_)
          have hb04 := Below.via hb03 hb4
          by_cases hlt : nthC a i < nthC b i
          · rw [if_pos hlt] at hcm
            refine W.condT rfl (by first | rfl | assumption | (simp only [bnf] <;> omega) | (simp only [*, bnf]; done) | fail) ?_
            (repeat (first | with_reducible refine W.seq ?_ | with_reducible refine Ops.nil ?_ | with_reducible refine W.region ?_ | refine z_p (kk := ?_)))
            exact W.fret (vs := [_]) rfl ⟨by rw [hcm]; rfl, hb04⟩
          · rw [if_neg hlt, if_pos (by omega)] at hcm
            refine W.condF rfl (by first | rfl | assumption | (simp only [bnf] <;> omega) | (simp only [*, bnf]; done) | fail) ?_
            (repeat (first | with_reducible refine W.seq ?_ | with_reducible refine Ops.nil ?_ | with_reducible refine W.region ?_ | refine z_p (kk := ?_) | with_reducible refine W.skip ?_))
            exact W.fret (vs := [_]) rfl ⟨by rw [hcm]; rfl, hb04⟩
      · rw [if_neg hz] at hcm
        (repeat (first | with_reducible refine W.seq ?_ | with_reducible refine Ops.nil ?_ | with_reducible refine W.region ?_ | refine z_p (kk := ?_)))
        refine W.condT rfl (by simp [hz]) ?_
        (repeat (first | with_reducible refine W.seq ?_ | with_reducible refine Ops.nil ?_ | with_reducible refine W.region ?_ | refine z_p (kk := ?_)))
        exact W.fret (vs := [_]) rfl ⟨by rw [hcm]; rfl, hb02⟩
    · have hf := hfin (by omega)
      (repeat (first | with_reducible refine W.seq ?_ | with_reducible refine Ops.nil ?_ | with_reducible refine W.region ?_ | refine z_p (kk := ?_) | refine z_y (kk := ?_) | refine z_l (kk := ?_) | refine z_h (kk := ?_)))
      refine W.condF rfl (by first | (simp; done) | (simp; omega)) ?_
      (repeat (first | with_reducible refine W.seq ?_ | with_reducible refine Ops.nil ?_ | with_reducible refine W.region ?_ | refine z_p (kk := ?_) | refine z_a (kk := ?_) | refine W.exit rfl ?_ | refine z_l (kk := ?_) | refine z_M (kk := ?_) | refine z_m (kk := ?_)))
      exact W.fret (vs := [_]) rfl ⟨by rw [← hf]; rfl, hb1⟩
  · have hf := hfin (by omega)
    (repeat (first | with_reducible refine W.seq ?_ | with_reducible refine Ops.nil ?_ | with_reducible refine W.region ?_ | refine z_p (kk := ?_) | refine z_n (kk := ?_) | refine z_l (kk := ?_) | refine z_g (kk := ?_)))
    refine W.condF rfl (by first | (simp; done) | (simp; omega)) ?_
    (repeat (first | with_reducible refine W.seq ?_ | with_reducible refine Ops.nil ?_ | with_reducible refine W.region ?_ | refine z_p (kk := ?_) | refine z_a (kk := ?_) | refine W.exit rfl ?_ | refine z_l (kk := ?_) | refine z_M (kk := ?_) | refine z_m (kk := ?_)))
    exact W.fret (vs := [_]) rfl ⟨by rw [← hf]; rfl, hb1⟩
end Go.Proofs.YtcmjlmnfdncajaaGreatDoor
namespace Go.Proofs.YtcmjlmnfdncajaaGreatDoor
open Go Go.RowKit Go.Proofs.YtcmjlmnfdncajaaGreatDoor.VW Go.Proofs.YtcmjlmnfdncajaaGreatDoor.TW
attribute [local irreducible] W Ops OrdA VW.Ord OrdX Wi OpsI OrdF
/-- As PO, of the reference's parts. -/
abbrev PR (N : Nat) (w : World) (v : Value) (l : List (Value × Nat)) : Prop := N ≤ w.heap.size ∧ OP 100 pA pB (tr w N) w v l
theorem PR.nil {N : Nat} {w : World} (h : N ≤ w.heap.size) : PR N w (.slice none 0 0) [] := ⟨h, OP.nil (tr_bel h)⟩
theorem pr_kp {N : Nat} {S : Nat → Prop} {w w' : World} {v : Value} {l : List (Value × Nat)} (h : PR N w v l) (k : Kp S w w') (hS : ∀ i, v.ownBlock = some i → ¬ S i) : PR N w' v l := by
  have h1 := h.1
  have h2 := k.size
  refine ⟨by omega, tr_bel (by omega), own_kp h.2.own k hS, fun i hi => ?_⟩
  have := h.2.ge i hi
  rw [tr_size (by omega)] at this ⊢
  exact this
theorem pr_ge {N : Nat} {w : World} {v : Value} {l : List (Value × Nat)} (h : PR N w v l) : ∀ i, v.ownBlock = some i → N ≤ i := fun i hi => by
  have := h.2.ge i hi
  rw [tr_size h.1] at this
  exact this
theorem pr_R2 {N : Nat} {w : World} {v : Value} {l : List (Value × Nat)} {S' : Nat → Prop} (h : PR N w v l) (hl : l.length ≤ 140737488355328) (hS : ∀ i, v.ownBlock = some i → ¬ S' i) : R2 S' w v l := by
  rcases h.2.own.2 with ⟨h2, h3⟩ | ⟨g, cap, cur, h2, h3, h4, h5, _⟩
  · have : l = [] := List.length_eq_zero_iff.1 h3
    subst this
    rw [h2]; exact R2.nil
  · subst h2
    refine ⟨_, _, rfl, ⟨own_cap h.2.own, hl⟩, fun hp => ⟨_, rfl, hS g rfl, fun j hj => ?_⟩⟩
    obtain ⟨g', c', e', hc⟩ := h.2.at_ hp
    simp only [Value.slice.injEq, Option.some.injEq, Addr.mk.injEq, true_and, and_true] at e'
    obtain ⟨rfl, rfl⟩ := e'
    obtain ⟨c1, c2⟩ := hc j hj
    exact ⟨c1, c2⟩
theorem pr_put {N : Nat} {w w' w8 : World} {v v' : Value} {l l' : List (Value × Nat)} (h : PR N w v l) (h8 : w8.heap.size = N) (hO : OP 100 pA pB w8 w' v' l') (k : w.heap.size ≤ w'.heap.size) : PR N w' v' l' := by
  have h1 := h.1
  refine ⟨by omega, tr_bel (by omega), hO.own, fun i hi => ?_⟩
  have := hO.ge i hi
  rw [tr_size (by omega)]
  omega
theorem pr_OM {S' : Nat → Prop} {N : Nat} {w : World} {v : Value} {o : Od} {l : List (Value × Nat)} (hP : PR N w v l) (hS : ∀ i, S' i → i < N) (hA : OA S' w o l) (hl : lenO o ≤ 140737488355328) : OM S' w v o :=
  ⟨l, pr_R2 hP (by rw [hA.len]; exact hl) (fun j hj h => by have := pr_ge hP j hj; have := hS j h; omega), hA⟩
theorem bl_at1 {a b : Od} {i k : Nat} (hi : i < lenO a) (h : k < lenO b → cmpO (nthE a i) (nthE b k) = 1) : blO (dropO a i) (dropO b k) = .cons (nthE a i) (nthC a i) (blO (dropO a (i + 1)) (dropO b k)) := by
  rw [dropO_cons hi]
  by_cases hk : k < lenO b
  · rw [dropO_cons (o := b) hk, blO_cons, if_pos (h hk)]
  · have : dropO b k = .nil := by
      have key : ∀ (b : Od) (k : Nat), lenO b ≤ k → dropO b k = .nil := fun b => by
        induction b with
        | nil => intro k _; cases k <;> rfl
        | cons e c r _ ih =>
          intro k hk
          cases k with
          | zero => simp [lenO] at hk
          | succ k => exact ih k (by simp [lenO] at hk; omega)
      exact key b k (by omega)
    rw [this, blO_nil, blO_nil]
theorem bl_at2 {a b : Od} {i k : Nat} (hk : k < lenO b) (h : i < lenO a → cmpO (nthE a i) (nthE b k) = -1) : blO (dropO a i) (dropO b k) = .cons (nthE b k) (nthC b k) (blO (dropO a i) (dropO b (k + 1))) := by
  rw [bl_comm, bl_at1 hk (fun hi => by have := h hi; rw [cmp_swap (nthE a i) (nthE b k)]; omega), bl_comm]
theorem bl_at0 {a b : Od} {i k : Nat} (hi : i < lenO a) (hk : k < lenO b) (h : cmpO (nthE a i) (nthE b k) = 0) : blO (dropO a i) (dropO b k) = .cons (nthE a i) (nthC a i + nthC b k) (blO (dropO a (i + 1)) (dropO b (k + 1))) := by
  rw [dropO_cons hi, dropO_cons (o := b) hk, blO_cons, if_neg (by omega), if_neg (by omega)]
set_option maxHeartbeats 8000000 in
theorem refBlend_c {S' : Nat → Prop} {w : World} {va vb : Value} {a b : Od} (hS : ∀ i, S' i → i < w.heap.size) (hA : OM S' w va a) (hB : OM S' w vb b) (hza : szO a ≤ 100000) (hzb : szO b ≤ 100000) (hta : topO a ≤ 10000000) (htb : topO b ≤ 10000000) :
    Calls Tryz.prog 54 #[va, vb] w (Ret fun r w' => OM S' w' r (blO a b) ∧ Below w.heap.size w w') := by
  have hsz := bl_sizes a b
  have hlz := len_le_sz (blO a b)
  obtain ⟨la, hRa, hAa⟩ := hA
  obtain ⟨lb, hRb, hAb⟩ := hB
  have hla := hAa.len
  have hlb := hAb.len
  have hza' := len_le_sz a
  have hzb' := len_le_sz b
  obtain ⟨Aa, ca, rfl⟩ := hRa.sh
  obtain ⟨Ab, cb, rfl⟩ := hRb.sh
  refine calls_W (vs := [_, _]) Tryz.func54 rfl (by kernel_rfl) rfl ?_
  (repeat (first | with_reducible refine W.seq ?_ | with_reducible refine Ops.nil ?_ | with_reducible refine W.region ?_ | refine z_p (kk := ?_) | with_reducible refine W.block ?_))
  refine W.loop (fun m ρ w3 => ∃ (i k : Nat) (acc : Od) (l : List (Value × Nat)) (ov : Value), m = la.length + lb.length - i - k ∧ i ≤ la.length ∧ k ≤ lb.length ∧ ρ = [(0, .slice Aa la.length ca), (1, .slice Ab lb.length cb), (5, ov), (6, .int .i64 i), (7, .int .i64 k)] ∧
      Below w.heap.size w w3 ∧ PR w.heap.size w3 ov l ∧ OA S' w acc l ∧ blO a b = appO acc (blO (dropO a i) (dropO b k)) ∧ lenO acc ≤ i + k)
    ⟨_, _, ⟨0, 0, .nil, [], _, rfl, Nat.zero_le _, Nat.zero_le _, rfl, Below.refl _ _, PR.nil (by omega), rfl, by rw [dropO_zero, dropO_zero]; rfl, Nat.zero_le _⟩, (by repeat (first | exact trivial | refine And.intro rfl ?_))⟩ ?_
  rintro m ρ w3 ⟨i, k, acc, l, ov, rfl, hi, hk, rfl, hb03, hP, hAc, heq, hlac⟩
  have hPs := hP.1
  have hb33 : Below w3.heap.size w3 w3 := Below.refl _ _
  have hlen := hAc.len
  by_cases hend : i = la.length ∧ k = lb.length
  · obtain ⟨h1, h2⟩ := hend
    rw [h1, h2, hla, hlb, dropO_len, dropO_len] at heq
    have heq' : blO a b = acc := by rw [heq]; exact appO_nil acc
    (repeat (first | with_reducible refine W.seq ?_ | with_reducible refine Ops.nil ?_ | with_reducible refine W.region ?_ | refine z_p (kk := ?_) | refine z_y (kk := ?_) | refine z_l (kk := ?_) | refine z_h (kk := ?_)))
    refine W.condF rfl (by first | (simp; done) | (simp; omega)) ?_
    (repeat (first | with_reducible refine W.seq ?_ | with_reducible refine Ops.nil ?_ | with_reducible refine W.region ?_ | refine z_p (kk := ?_) | refine W.exit rfl ?_))
    refine W.fret rfl ⟨?_, hb03⟩
    rw [heq']
    exact pr_OM hP hS (hAc.kp (Kp.of_below (S := fun _ => False) hb03) (fun _ e => e.elim)) (by rw [← heq']; omega)
  · have hor : i < la.length ∨ k < lb.length := by omega
    refine W.seq ?_
    refine W.cut (fun ρ w4 => ρ = [(0, .slice Aa la.length ca), (1, .slice Ab lb.length cb), (5, ov), (6, .int .i64 i), (7, .int .i64 k)] ∧ w4 = w3) ?_ ?_
    · by_cases hil : i < la.length
      · (repeat (first | with_reducible refine W.seq ?_ | with_reducible refine Ops.nil ?_ | with_reducible refine W.region ?_ | refine z_p (kk := ?_) | refine z_n (kk := ?_) | refine z_l (kk := ?_) | refine z_g (kk := ?_)))
        refine W.condT rfl (by first | rfl | (simp; done) | (simp; omega)) ?_
        (repeat (first | with_reducible refine W.skip ?_))
        exact W.endl ⟨_, ⟨rfl, rfl⟩, (by repeat (first | exact trivial | refine And.intro rfl ?_ | refine And.intro (look_b rfl (by first | rfl | assumption | (simp only [bnf] <;> omega) | (simp only [*, bnf]; done) | fail)) ?_))⟩
      · have hkl : k < lb.length := by omega
        (repeat (first | with_reducible refine W.seq ?_ | with_reducible refine Ops.nil ?_ | with_reducible refine W.region ?_ | refine z_p (kk := ?_) | refine z_y (kk := ?_) | refine z_l (kk := ?_) | refine z_h (kk := ?_)))
        refine W.condT rfl (by first | rfl | (simp; done) | (simp; omega)) ?_
        (repeat (first | with_reducible refine W.skip ?_))
        exact W.endl ⟨_, ⟨rfl, rfl⟩, (by repeat (first | exact trivial | refine And.intro rfl ?_ | refine And.intro (look_b rfl (by first | rfl | assumption | (simp only [bnf] <;> omega) | (simp only [*, bnf]; done) | fail)) ?_))⟩
    rintro ρ w4 ⟨rfl, rfl⟩
    have hRa3 := hRa.below hb03
    have hRb3 := hRb.below hb03
    (repeat (first | with_reducible refine W.seq ?_ | with_reducible refine Ops.nil ?_ | with_reducible refine W.region ?_ | refine z_p (kk := ?_) | with_reducible refine W.block ?_ | refine z_l (kk := ?_)))
    refine W.cut (fun ρ w5 => ∃ c : Int, ρ = [(0, .slice Aa la.length ca), (1, .slice Ab lb.length cb), (5, ov), (6, .int .i64 i), (7, .int .i64 k), (8, .int .i64 c)] ∧ Below w4.heap.size w4 w5 ∧
      ((c = 1 ∧ i < la.length ∧ (k < lb.length → cmpO (nthE a i) (nthE b k) = 1)) ∨ (c = -1 ∧ k < lb.length ∧ (i < la.length → cmpO (nthE a i) (nthE b k) = -1)) ∨ (c = 0 ∧ i < la.length ∧ k < lb.length ∧ cmpO (nthE a i) (nthE b k) = 0))) ?_ ?_
    · by_cases hil : i = la.length
      · refine W.condT rfl (by first | rfl | assumption | (simp only [bnf] <;> omega) | (simp only [*, bnf]; done) | fail) ?_
        (repeat (first | with_reducible refine Ops.nil ?_ | with_reducible refine W.region ?_ | refine z_p (kk := ?_)))
        exact W.endl ⟨_, ⟨-1, rfl, hb33, .inr (.inl ⟨rfl, by omega, fun h => by omega⟩)⟩, (by repeat (first | exact trivial | refine And.intro rfl ?_ | refine And.intro (look_b rfl (by first | rfl | assumption | (simp only [bnf] <;> omega) | (simp only [*, bnf]; done) | fail)) ?_))⟩
      · refine W.condF rfl (by first | rfl | assumption | (simp only [bnf] <;> omega) | (simp only [*, bnf]; done) | fail) ?_
        (repeat (first | with_reducible refine W.seq ?_ | with_reducible refine Ops.nil ?_ | with_reducible refine W.region ?_ | refine z_p (kk := ?_) | refine z_l (kk := ?_)))
        by_cases hkl : k < lb.length
        · obtain ⟨a2, aM⟩ := hAa.at_ (i := i) (by omega)
          obtain ⟨b2, bM⟩ := hAb.at_ (i := k) (by omega)
          refine W.condT rfl (by first | rfl | assumption | (simp only [bnf] <;> omega) | (simp only [*, bnf]; done) | fail) ?_
          skip
          refine W.ordA 99 [(0, 1), (1, 1), (2, 1), (3, 1), (4, 2), (5, 1), (6, 1), (7, 1), (8, 1), (9, 2), (10, 2), (11, 1)] rfl (by kernel_rfl) rfl (by kernel_rfl) (fun _ _ _ h => h) ?_
          (repeat (first | refine x_p (kk := ?_) | refine x_R0 (kk := fun _ _ => ?_)))
          refine OrdA.call rfl rfl rfl rfl rfl rfl rfl (fun w' hw' => Calls.via hw' (refCompare_c _ (Nat.le_refl _) (aM.below (Below.via hb03 hw')) (bM.below (Below.via hb03 hw')))) ?_
          (repeat (first | refine x_p (kk := ?_)))
          refine OrdA.nil (fun w5 hb5 => W.endl ⟨_, ⟨cmpO (nthE a i) (nthE b k), rfl, hb5, ?_⟩, (by repeat (first | exact trivial | refine And.intro rfl ?_ | refine And.intro (look_b rfl (by first | rfl | assumption | (simp only [bnf] <;> omega) | (simp only [*, bnf]; done) | fail)) ?_))⟩)
          rcases cmp_rng (nthE a i) (nthE b k) with h | h | h
          · exact .inr (.inl ⟨h, hkl, fun _ => h⟩)
          · exact .inr (.inr ⟨h, by omega, hkl, h⟩)
          · exact .inl ⟨h, by omega, fun _ => h⟩
        · refine W.condF rfl (by first | rfl | assumption | (simp only [bnf] <;> omega) | (simp only [*, bnf]; done) | fail) ?_
          (repeat (first | with_reducible refine W.skip ?_))
          exact W.endl ⟨_, ⟨1, rfl, hb33, .inl ⟨rfl, by omega, fun h => by omega⟩⟩, (by repeat (first | exact trivial | refine And.intro rfl ?_ | refine And.intro (look_b rfl (by first | rfl | assumption | (simp only [bnf] <;> omega) | (simp only [*, bnf]; done) | fail)) ?_))⟩
    rintro ρ w5 ⟨c, rfl, hb45, hc⟩
    have hb05 := Below.via hb03 hb45
    have hb55 : Below w5.heap.size w5 w5 := Below.refl _ _
    have hRa5 := hRa.below hb05
    have hRb5 := hRb.below hb05
    have hP5 := pr_kp hP (kpF hb45) (fun _ _ e => e)
    clear hRa3 hRb3 hb33
    (repeat (first | with_reducible refine W.seq ?_ | with_reducible refine Ops.nil ?_ | with_reducible refine W.region ?_ | refine z_p (kk := ?_) | with_reducible refine W.block ?_))
    rcases hc with ⟨rfl, hil, hcm⟩ | ⟨rfl, hkl, hcm⟩ | ⟨rfl, hil, hkl, hcm⟩
    · obtain ⟨a2, aM⟩ := hAa.at_ (i := i) (by omega)
      have ha1 := aM.one
      rw [bl_at1 (by omega) (fun h => hcm (by omega)), appO_cons_snoc] at heq
      generalize hva : (la.getD i default).1 = va at *
      refine W.condT rfl (by first | rfl | assumption | (simp only [bnf] <;> omega) | (simp only [*, bnf]; done) | fail) ?_
      (repeat (first | with_reducible refine W.seq ?_ | with_reducible refine W.region ?_ | refine z_p (kk := ?_) | refine z_R2 (kk := fun _ => ?_)))
      rw [hva, a2]
      refine Ops.pushP (fa := pA) (fb := pB) (z := (va, nthC a i)) rfl rfl rfl rfl rfl rfl rfl rfl rfl rfl rfl (fun _ => rfl) ha1 rfl hP5.2 (by omega) (fun lv' p w7 hO7 k7 hn7 => ?_)
      have hP7 := pr_put hP5 (tr_size hP5.1) hO7 k7.size
      have hAs := OA_snoc (c := nthC a i) aM hAc
      have hls : lenO (snocO acc (nthE a i) (nthC a i)) = lenO acc + 1 := by unfold snocO; rw [lenO_app]; rfl
      (repeat (first | with_reducible refine Ops.nil ?_ | with_reducible refine W.region ?_ | refine z_p (kk := ?_) | refine z_a (kk := ?_) | with_reducible refine W.endb ?_))
      exact W.endl ⟨_, _, ⟨⟨i + 1, k, snocO acc (nthE a i) (nthC a i), l ++ [(va, nthC a i)], lv', rfl, by omega, hk, rfl, Below.put hb05 k7 (fun j hj => pr_ge hP5 j hj), hP7, hAs, heq, by omega⟩, by omega⟩, (by repeat (first | exact trivial | refine And.intro rfl ?_))⟩
    · obtain ⟨b2, bM⟩ := hAb.at_ (i := k) (by omega)
      have hb1 := bM.one
      rw [bl_at2 (by omega) (fun h => hcm (by omega)), appO_cons_snoc] at heq
      generalize hvb : (lb.getD k default).1 = vb at *
      refine W.condF rfl (by first | rfl | assumption | (simp only [bnf] <;> omega) | (simp only [*, bnf]; done) | fail) ?_
      (repeat (first | with_reducible refine W.seq ?_ | with_reducible refine Ops.nil ?_ | with_reducible refine W.region ?_ | refine z_p (kk := ?_)))
      refine W.condT rfl (by first | rfl | assumption | (simp only [bnf] <;> omega) | (simp only [*, bnf]; done) | fail) ?_
      (repeat (first | with_reducible refine W.seq ?_ | with_reducible refine W.region ?_ | refine z_p (kk := ?_) | refine z_R2 (kk := fun _ => ?_)))
      rw [hvb, b2]
      refine Ops.pushP (fa := pA) (fb := pB) (z := (vb, nthC b k)) rfl rfl rfl rfl rfl rfl rfl rfl rfl rfl rfl (fun _ => rfl) hb1 rfl hP5.2 (by omega) (fun lv' p w7 hO7 k7 hn7 => ?_)
      have hP7 := pr_put hP5 (tr_size hP5.1) hO7 k7.size
      have hAs := OA_snoc (c := nthC b k) bM hAc
      have hls : lenO (snocO acc (nthE b k) (nthC b k)) = lenO acc + 1 := by unfold snocO; rw [lenO_app]; rfl
      (repeat (first | with_reducible refine Ops.nil ?_ | with_reducible refine W.region ?_ | refine z_p (kk := ?_) | refine z_a (kk := ?_) | with_reducible refine W.endb ?_))
      exact W.endl ⟨_, _, ⟨⟨i, k + 1, snocO acc (nthE b k) (nthC b k), l ++ [(vb, nthC b k)], lv', rfl, hi, by omega, rfl, Below.put hb05 k7 (fun j hj => pr_ge hP5 j hj), hP7, hAs, heq, by omega⟩, by omega⟩, (by repeat (first | exact trivial | refine And.intro rfl ?_))⟩
    · obtain ⟨a2, aM⟩ := hAa.at_ (i := i) (by omega)
      obtain ⟨b2, bM⟩ := hAb.at_ (i := k) (by omega)
      have ha1 := aM.one
      have htc := top_le hta (i := i) (by omega)
      have htd := top_le htb (i := k) (by omega)
      rw [bl_at0 (by omega) (by omega) hcm, appO_cons_snoc] at heq
      generalize hva : (la.getD i default).1 = va at *
      refine W.condF rfl (by first | rfl | assumption | (simp only [bnf] <;> omega) | (simp only [*, bnf]; done) | fail) ?_
      (repeat (first | with_reducible refine W.seq ?_ | with_reducible refine Ops.nil ?_ | with_reducible refine W.region ?_ | refine z_p (kk := ?_)))
      refine W.condF rfl (by first | rfl | assumption | (simp only [bnf] <;> omega) | (simp only [*, bnf]; done) | fail) ?_
      (repeat (first | with_reducible refine W.seq ?_))
      refine W.ordA 18 [(0, 1), (1, 1), (2, 1), (3, 1), (4, 1), (5, 2), (6, 1), (7, 1), (8, 1), (9, 1), (10, 2), (11, 1), (12, 1), (13, 1), (14, 1), (15, 2), (16, 1), (17, 1), (18, 0), (19, 0), (20, 1)] rfl (by kernel_rfl) rfl (by kernel_rfl) (fun _ _ _ h => h) ?_
      (repeat (first | refine x_p (kk := ?_) | refine x_a (kk := ?_) | refine x_R0 (kk := fun _ _ => ?_) | refine x_R1 (kk := fun _ _ => ?_)))
      rw [hva, a2, b2]
      rw [show ((nthC a i : Nat) : Int) + ((nthC b k : Nat) : Int) = ((nthC a i + nthC b k : Nat) : Int) by omega]
      refine x_ev rfl (fun _ => EV.bld2 rfl rfl rfl rfl rfl ha1 rfl) (kk := ?_)
      refine OrdA.tail (fun w6 hb6 => ?_)
      have hb06 := Below.via hb05 hb6
      have hP6 := pr_kp hP5 (kpF hb6) (fun _ _ e => e)
      refine VW.Ord.pushP (z := (va, nthC a i + nthC b k)) rfl rfl rfl rfl rfl rfl rfl rfl rfl rfl rfl rfl rfl (fun _ => rfl) ha1 rfl hP6.2 (by omega) (fun lv' p w7 hO7 k7 hn7 => ?_)
      have hP7 := pr_put hP6 (tr_size hP6.1) hO7 k7.size
      have hAs := OA_snoc (c := nthC a i + nthC b k) aM hAc
      have hls : lenO (snocO acc (nthE a i) (nthC a i + nthC b k)) = lenO acc + 1 := by unfold snocO; rw [lenO_app]; rfl
      (repeat (first | refine y_p (kk := ?_)))
      refine VW.Ord.nil ?_
      (repeat (first | with_reducible refine W.seq ?_ | with_reducible refine Ops.nil ?_ | with_reducible refine W.region ?_ | refine z_p (kk := ?_) | refine z_a (kk := ?_) | with_reducible refine W.endb ?_))
      exact W.endl ⟨_, _, ⟨⟨i + 1, k + 1, snocO acc (nthE a i) (nthC a i + nthC b k), l ++ [(va, nthC a i + nthC b k)], lv', rfl, by omega, by omega, rfl, Below.put hb06 k7 (fun j hj => pr_ge hP6 j hj), hP7, hAs, heq, by omega⟩, by omega⟩, (by repeat (first | exact trivial | refine And.intro rfl ?_))⟩
/-- One part. -/
theorem one_c {S' : Nat → Prop} {w : World} {va : Value} {a : Od} {c : Nat} (hS : ∀ i, S' i → i < w.heap.size) (hA : OM S' w va a) : Calls Tryz.prog 84 #[va, .int .i64 (c : Int)] w (Ret fun r w' => OM S' w' r (.cons a c .nil) ∧ Below w.heap.size w w') := by
  have ha1 := hA.one
  refine calls_W (vs := [_, _]) Tryz.func84 rfl (by kernel_rfl) rfl ?_
  (repeat (first | with_reducible refine W.seq ?_ | with_reducible refine Ops.nil ?_ | with_reducible refine W.region ?_ | refine z_p (kk := ?_)))
  refine Ops.bld2 rfl rfl rfl rfl rfl rfl rfl ha1 rfl ?_
  refine Ops.bsG (cs := #[va, .int .i64 (c : Int)]) (vs := [(0, .agg #[va, .int .i64 (c : Int)])]) rfl rfl rfl rfl rfl rfl rfl rfl rfl (by simp [Instr.fill, Value.cells, show Array.range 2 = #[0, 1] from rfl]) (fun w1 r hM => ?_)
  have e1 := hM.r_eq
  have B1 : Blk w1 r #[va, .int .i64 (c : Int)] 100 := hM.at_
  (repeat (first | with_reducible refine Ops.nil ?_ | refine z_p (kk := ?_)))
  refine W.fret rfl ⟨⟨[(va, c)], ⟨_, _, rfl, ⟨Nat.le_refl _, by simp⟩, fun _ => ⟨_, rfl, fun h => by have := hS _ h; simp only at this; omega, fun j hj => ?_⟩⟩, ?_⟩, Mk.bel hM⟩
  · simp at hj
    subst hj
    exact ⟨B1.cell rfl, B1.cell rfl⟩
  · obtain ⟨le, h1, h2⟩ := hA
    exact ⟨va, [], le, rfl, h1.below (Mk.bel hM), h2.kp (kpF (Mk.bel hM)) (fun _ e => e.elim), rfl⟩
end Go.Proofs.YtcmjlmnfdncajaaGreatDoor
namespace Go.Proofs.YtcmjlmnfdncajaaGreatDoor
open Go Go.RowKit Go.Proofs.YtcmjlmnfdncajaaGreatDoor.VW Go.Proofs.YtcmjlmnfdncajaaGreatDoor.TW
attribute [local irreducible] W Ops OrdA VW.Ord OrdX Wi OpsI OrdF
def beh : Nat → List UInt8 → Nat
  | _, [] => 1
  | o, b :: t => if b = 40 then 1 + beh (o + 1) t else if o ≤ 1 then 1 else 1 + beh (o - 1) t
theorem beh_pos : ∀ (o : Nat) (s : List UInt8), 1 ≤ beh o s
  | _, [] => by simp [beh]
  | o, b :: t => by simp only [beh]; split; omega; split <;> omega
theorem beh_tx : ∀ (f : Fo) (o : Nat) (t : List UInt8), beh (o + 1) (txF f ++ t) = 2 * szF f + beh (o + 1) t
  | .nil, o, t => by simp [txF, szF]
  | .cons k r, o, t => by
    have e : txF (.cons k r) ++ t = 40 :: (txF k ++ (41 :: (txF r ++ t))) := by simp [txF]
    rw [e]
    have h1 : beh (o + 1) (40 :: (txF k ++ (41 :: (txF r ++ t)))) = 1 + beh (o + 1 + 1) (txF k ++ (41 :: (txF r ++ t))) := by simp [beh]
    have h2 : beh (o + 1 + 1) (41 :: (txF r ++ t)) = 1 + beh (o + 1) (txF r ++ t) := by
      simp only [beh]
      rw [if_neg (by decide), if_neg (by omega)]
      rfl
    rw [h1, beh_tx k (o + 1) _, h2, beh_tx r o t]
    simp only [szF]
    omega
theorem beh_at {s : List UInt8} {o i : Nat} (h : i < s.length) : beh o (s.drop i) = if (s.getD i 0).toNat = 40 then 1 + beh (o + 1) (s.drop (i + 1)) else if o ≤ 1 then 1 else 1 + beh (o - 1) (s.drop (i + 1)) := by
  rw [drop_at h]
  have e40 : (s.getD i 0 = 40) ↔ (s.getD i 0).toNat = 40 := ⟨fun h => by rw [h]; rfl, fun h => UInt8.toNat_inj.1 h⟩
  simp only [beh, e40]
set_option maxHeartbeats 4000000 in
theorem rBehind_c {w : World} {s : List UInt8} {i : Nat} {k : Fo} {t : List UInt8} (hs : s.length ≤ 4294967295) (hd : s.drop i = 40 :: (txF k ++ 41 :: t)) : Calls Tryz.prog 95 #[S s, .int .i64 (i : Int)] w (Ret fun r w' => r = .int .i64 ((i + 2 + 2 * szF k : Nat) : Int) ∧ w' = w) := by
  have hlen : i + 2 + 2 * szF k ≤ s.length := by
    have := congrArg List.length hd
    rw [List.length_drop] at this
    simp only [List.length_cons, List.length_append, txF_len] at this
    omega
  have hg : s.getD i 0 = 40 := by
    have h1 := drop_at (s := s) (i := i) (by omega)
    rw [hd] at h1
    simp only [List.cons.injEq] at h1
    exact h1.1.symm
  have hb0 : i + beh 0 (s.drop i) = i + 2 + 2 * szF k := by
    rw [hd]
    have h1 : beh 0 (40 :: (txF k ++ 41 :: t)) = 1 + beh 1 (txF k ++ 41 :: t) := by simp [beh]
    have h2 : beh 1 (41 :: t) = 1 := by simp [beh]
    rw [h1, beh_tx k 0, h2]
    omega
  refine calls_W (vs := [_, _]) Tryz.func95 rfl (by kernel_rfl) rfl ?_
  (repeat (first | with_reducible refine W.seq ?_ | with_reducible refine Ops.nil ?_ | with_reducible refine W.region ?_ | refine z_p (kk := ?_) | with_reducible refine W.block ?_))
  refine W.loop (fun m ρ w1 => ∃ (j o : Nat), m = s.length - j ∧ ρ = [(0, S s), (1, .int .i64 (j : Int)), (5, .int .i64 (o : Int))] ∧ w1 = w ∧ j + beh o (s.drop j) = i + 2 + 2 * szF k ∧ i ≤ j ∧ o ≤ j ∧ (o = 0 → j = i))
    ⟨_, _, ⟨i, 0, rfl, rfl, rfl, hb0, Nat.le_refl _, Nat.zero_le _, fun _ => rfl⟩, (by repeat (first | exact trivial | refine And.intro rfl ?_))⟩ ?_
  rintro m ρ w1 ⟨j, o, rfl, rfl, rfl, hbe, hij, hoj, ho0⟩
  have hbp := beh_pos o (s.drop j)
  have hjl : j < s.length := by omega
  rw [beh_at hjl] at hbe
  generalize hx : (s.getD j 0).toNat = x at *
  (repeat (first | with_reducible refine W.seq ?_ | with_reducible refine Ops.nil ?_ | with_reducible refine W.region ?_ | refine z_p (kk := ?_) | with_reducible refine W.block ?_ | refine z_ev (EV.sidx rfl rfl rfl rfl (by omega)) (kk := ?_)))
  rw [hx]
  skip
  by_cases h40 : x = 40
  · subst h40
    rw [if_pos rfl] at hbe
    refine W.condT rfl (by first | rfl | assumption | (simp only [bnf] <;> omega) | (simp only [*, bnf]; done) | fail) ?_
    (repeat (first | with_reducible refine W.seq ?_ | with_reducible refine Ops.nil ?_ | with_reducible refine W.region ?_ | refine z_p (kk := ?_) | refine z_a (kk := ?_)))
    refine W.condF rfl (by first | rfl | (simp; done) | (simp; omega)) ?_
    (repeat (first | with_reducible refine W.skip ?_ | with_reducible refine W.endb ?_))
    exact W.endl ⟨_, _, ⟨⟨j + 1, o + 1, rfl, rfl, rfl, by omega, by omega, by omega, fun h => by omega⟩, by omega⟩, (by repeat (first | exact trivial | refine And.intro rfl ?_))⟩
  · rw [if_neg h40] at hbe
    have f1 : (((x : Nat) : Int) == 40) = false := by rw [beq_eq_false_iff_ne]; omega
    have ho : o ≠ 0 := fun h => by
      have := ho0 h
      subst this
      rw [hg] at hx
      exact h40 (by rw [← hx]; rfl)
    refine W.condF rfl (by first | rfl | assumption | (simp; done)) ?_
    (repeat (first | with_reducible refine W.seq ?_ | with_reducible refine Ops.nil ?_ | with_reducible refine W.region ?_ | refine z_p (kk := ?_) | refine z_a (kk := ?_)))
    rw [show (o : Int) - 1 = ((o - 1 : Nat) : Int) by omega]
    by_cases h1 : o ≤ 1
    · rw [if_pos h1] at hbe
      have ho1 : o = 1 := by omega
      subst ho1
      skip
      refine W.condT rfl (by first | rfl | assumption | (simp only [bnf] <;> omega) | (simp only [*, bnf]; done) | fail) ?_
      (repeat (first | with_reducible refine W.seq ?_ | with_reducible refine Ops.nil ?_ | with_reducible refine W.region ?_ | refine z_p (kk := ?_)))
      refine W.fret rfl ⟨?_, rfl⟩
      rw [← hbe]; rfl
    · rw [if_neg h1] at hbe
      skip
      refine W.condF rfl (by first | rfl | (simp; done) | (simp; omega)) ?_
      (repeat (first | with_reducible refine W.skip ?_ | with_reducible refine W.endb ?_))
      exact W.endl ⟨_, _, ⟨⟨j + 1, o - 1, rfl, rfl, rfl, by omega, by omega, by omega, fun h => by omega⟩, by omega⟩, (by repeat (first | exact trivial | refine And.intro rfl ?_))⟩
set_option maxHeartbeats 8000000 in
theorem rMeasure_c : ∀ (n : Nat) {w : World} {s : List UInt8} {i : Nat} {k : Fo} {t : List UInt8}, szF k ≤ n → s.length ≤ 1000 → s.drop i = 40 :: (txF k ++ 41 :: t) →
    Calls Tryz.prog 48 #[S s, .int .i64 (i : Int)] w (Ret fun r w' => OM (fun j => j < w.heap.size) w' r (msF k) ∧ Below w.heap.size w w') := by
  intro n
  induction n using Nat.strongRecOn with
  | _ n ih =>
  intro w s i k t hn hs hd
  have hlen : i + 2 + 2 * szF k ≤ s.length := by
    have := congrArg List.length hd
    rw [List.length_drop] at this
    simp only [List.length_cons, List.length_append, txF_len] at this
    omega
  refine calls_W (vs := [_, _]) Tryz.func48 rfl (by kernel_rfl) rfl ?_
  (repeat (first | with_reducible refine W.seq ?_ | with_reducible refine Ops.nil ?_ | with_reducible refine W.region ?_ | refine z_p (kk := ?_)))
  refine Ops.callS rfl rfl rfl rfl rfl (rBehind_c (by omega) hd) ?_
  (repeat (first | with_reducible refine W.seq ?_ | with_reducible refine Ops.nil ?_ | with_reducible refine W.region ?_ | refine z_p (kk := ?_) | refine z_a (kk := ?_) | with_reducible refine W.block ?_))
  refine W.loop (fun m ρ w1 => ∃ (j : Nat) (acc : Od) (r : Fo) (v : Value), m = szF r ∧ ρ = [(0, S s), (1, .int .i64 (j : Int)), (5, v), (6, .int .i64 ((i + 2 + 2 * szF k : Nat) : Int))] ∧ Below w.heap.size w w1 ∧ OM (fun j => j < w.heap.size) w1 v acc ∧ msF k = blO acc (msF r) ∧ s.drop j = txF r ++ 41 :: t ∧ j + 2 * szF r + 1 = i + 2 + 2 * szF k ∧ szF r ≤ szF k ∧ szO acc + szF r ≤ szF k ∧ topO acc + szF r ≤ szF k)
    ⟨_, _, ⟨i + 1, .nil, k, _, rfl, rfl, Below.refl _ _, OM.nil, rfl, by rw [show i + 1 = i + 1 from rfl, ← List.drop_drop, hd]; rfl, by omega, Nat.le_refl _, by simp [szO], by simp [topO]⟩, (by repeat (first | exact trivial | refine And.intro rfl ?_))⟩ ?_
  rintro m ρ w1 ⟨j, acc, r, v, rfl, rfl, hb1, hO, hms, hdj, hje, hrk, hz, ht⟩
  cases r with
  | nil =>
    simp only [szF] at hje
    (repeat (first | with_reducible refine W.seq ?_ | with_reducible refine Ops.nil ?_ | with_reducible refine W.region ?_ | refine z_p (kk := ?_) | refine z_a (kk := ?_)))
    refine W.condF rfl (by first | (simp; done) | (simp; omega)) ?_
    (repeat (first | with_reducible refine W.seq ?_ | with_reducible refine Ops.nil ?_ | with_reducible refine W.region ?_ | refine z_p (kk := ?_) | refine W.exit rfl ?_))
    refine W.fret rfl ⟨?_, hb1⟩
    rw [hms, show msF .nil = .nil from rfl, blO_nil]
    exact hO
  | cons k1 r1 =>
    have hdj' : s.drop j = 40 :: (txF k1 ++ 41 :: (txF r1 ++ 41 :: t)) := by rw [hdj]; simp [txF]
    simp only [szF] at hje hrk hz ht
    rw [show msF (.cons k1 r1) = blO (.cons (msF k1) 1 .nil) (msF r1) from rfl, ← bl_assoc] at hms
    obtain ⟨z1, z2⟩ := ms_sizes k1
    have hbs := bl_sizes acc (.cons (msF k1) 1 .nil)
    simp only [szO, topO] at hbs
    have hs1 := hb1.size
    (repeat (first | with_reducible refine W.seq ?_ | with_reducible refine Ops.nil ?_ | with_reducible refine W.region ?_ | refine z_p (kk := ?_) | refine z_a (kk := ?_)))
    refine W.condT rfl (by first | (simp; done) | (simp; omega)) ?_
    (repeat (first | with_reducible refine W.seq ?_ | with_reducible refine W.region ?_ | refine z_p (kk := ?_) | with_reducible refine W.skip ?_ | with_reducible refine W.block ?_))
    refine Ops.call rfl rfl rfl rfl rfl (ih (szF k1) (by omega) (Nat.le_refl _) hs hdj') (fun v2 w2 hR => ?_)
    obtain ⟨hM2, hb2⟩ := hR
    have hb02 := Below.via hb1 hb2
    have hM2' : OM (fun j => j < w.heap.size) w2 v2 (msF k1) := hM2.more (fun j h => .inl (by have h : j < w.heap.size := h; show j < w1.heap.size; omega))
    have hs2 := hb02.size
    skip
    refine Ops.call rfl rfl rfl rfl rfl (one_c (S' := fun j => j < w.heap.size) (c := 1) (fun j h => by have h : j < w.heap.size := h; omega) hM2') (fun v3 w3 hR => ?_)
    obtain ⟨hM3, hb3⟩ := hR
    have hb03 := Below.via hb02 hb3
    have hs3 := hb03.size
    skip
    refine Ops.call rfl rfl rfl rfl rfl (refBlend_c (S' := fun j => j < w.heap.size) (fun j h => by have h : j < w.heap.size := h; omega) (hO.below (Below.via hb2 hb3)) hM3 (by omega) (by simp only [szO]; omega) (by omega) (by simp only [topO]; omega)) (fun v4 w4 hR => ?_)
    obtain ⟨hM4, hb4⟩ := hR
    have hb04 := Below.via hb03 hb4
    (repeat (first | with_reducible refine Ops.nil ?_ | with_reducible refine W.region ?_ | refine z_p (kk := ?_) | with_reducible refine W.endb ?_))
    refine Ops.callS rfl rfl rfl rfl rfl (rBehind_c (by omega) hdj') ?_
    (repeat (first | with_reducible refine Ops.nil ?_ | refine z_p (kk := ?_)))
    refine W.endl ⟨_, _, ⟨⟨j + 2 + 2 * szF k1, _, r1, v4, rfl, rfl, hb04, hM4, hms, ?_, by omega, by omega, by omega, by omega⟩, by simp only [szF]; omega⟩, (by repeat (first | exact trivial | refine And.intro rfl ?_))⟩
    rw [show j + 2 + 2 * szF k1 = j + (2 + 2 * szF k1) by omega, ← List.drop_drop, hdj', show 2 + 2 * szF k1 = (txF k1).length + 1 + 1 by rw [txF_len]; omega, List.drop_succ_cons, ← List.drop_drop, List.drop_left]
    rfl
end Go.Proofs.YtcmjlmnfdncajaaGreatDoor
namespace Go.Proofs.YtcmjlmnfdncajaaGreatDoor
open Go Go.RowKit Go.Proofs.YtcmjlmnfdncajaaGreatDoor.VW Go.Proofs.YtcmjlmnfdncajaaGreatDoor.TW
attribute [local irreducible] W Ops OrdA VW.Ord OrdX Wi OpsI OrdF
theorem pairs_at {s : List UInt8} {i : Nat} (h : i + 1 < s.length) : pairs (s.drop i) i = if (s.getD i 0).toNat = 40 ∧ (s.getD (i + 1) 0).toNat = 41 then i :: pairs (s.drop (i + 1)) (i + 1) else pairs (s.drop (i + 1)) (i + 1) := by
  rw [drop_at (show i < s.length by omega), drop_at h]
  have e40 : (s.getD i 0 = 40) ↔ (s.getD i 0).toNat = 40 := ⟨fun h => by rw [h]; rfl, fun h => UInt8.toNat_inj.1 h⟩
  have e41 : (s.getD (i + 1) 0 = 41) ↔ (s.getD (i + 1) 0).toNat = 41 := ⟨fun h => by rw [h]; rfl, fun h => UInt8.toNat_inj.1 h⟩
  simp only [pairs, e40, e41]
theorem pairs_stop {s : List UInt8} {i : Nat} (h : ¬ i + 1 < s.length) : pairs (s.drop i) i = [] := by
  by_cases h1 : i < s.length
  · rw [drop_at h1, List.drop_eq_nil_of_le (by omega)]; rfl
  · rw [List.drop_eq_nil_of_le (by omega)]; rfl
set_option maxHeartbeats 4000000 in
theorem rHeads_c {w : World} {s : List UInt8} (hs : s.length ≤ 1000) : Calls Tryz.prog 47 #[S s] w (Ret fun r w' => LO 3 (Value.int .i64) w.heap.size w' r (intL (pairs (s.drop 1) 1)) ∧ Below w.heap.size w w') := by
  refine calls_W (vs := [_]) Tryz.func47 rfl (by kernel_rfl) rfl ?_
  (repeat (first | with_reducible refine W.seq ?_ | with_reducible refine Ops.nil ?_ | with_reducible refine W.region ?_ | refine z_p (kk := ?_) | with_reducible refine W.block ?_))
  refine W.loop (fun m ρ w1 => ∃ (i : Nat) (acc : List Nat) (lv : Value), m = s.length - i ∧ 1 ≤ i ∧ ρ = [(0, S s), (3, lv), (4, .int .i64 (i : Int))] ∧ Below w.heap.size w w1 ∧ LO 3 (Value.int .i64) w.heap.size w1 lv (intL acc) ∧ acc ++ pairs (s.drop i) i = pairs (s.drop 1) 1 ∧ acc.length ≤ i ∧ i ≤ 1001)
    ⟨_, _, ⟨1, [], _, rfl, Nat.le_refl _, rfl, Below.refl _ _, LO.nil, rfl, by simp, by omega⟩, (by repeat (first | exact trivial | refine And.intro rfl ?_))⟩ ?_
  rintro m ρ w1 ⟨i, acc, lv, rfl, hi1, rfl, hb1, hO, heq, hal, hi2⟩
  have hil : (intL acc).length = acc.length := List.length_map _
  by_cases hg : i + 1 < s.length
  · rw [pairs_at hg] at heq
    generalize hx : (s.getD i 0).toNat = x at *
    generalize hy : (s.getD (i + 1) 0).toNat = y at *
    by_cases h40 : x = 40
    · have f1 : (((x : Nat) : Int) == 40) = true := by rw [h40]; rfl
      by_cases h41 : y = 41
      · have f2 : (((y : Nat) : Int) == 41) = true := by rw [h41]; rfl
        rw [if_pos ⟨h40, h41⟩] at heq
        (repeat (first | with_reducible refine W.seq ?_ | with_reducible refine Ops.nil ?_ | with_reducible refine W.region ?_ | refine z_p (kk := ?_) | refine z_a (kk := ?_) | refine z_ev (EV.slen rfl rfl rfl) (kk := ?_)))
        refine W.condT rfl (by first | (simp; done) | (simp; omega)) ?_
        (repeat (first | with_reducible refine W.seq ?_ | with_reducible refine Ops.nil ?_ | with_reducible refine W.region ?_ | refine z_p (kk := ?_) | refine z_a (kk := ?_) | refine z_y (kk := ?_) | with_reducible refine W.skip ?_ | with_reducible refine W.block ?_ | refine z_ev (EV.sidx rfl rfl rfl rfl (by omega)) (kk := ?_) | refine z_h (kk := ?_)))
        rw [hx]
        skip
        rw [show (i : Int) + 1 = ((i + 1 : Nat) : Int) by omega]
        skip
        rw [hy]
        skip
        refine W.condT rfl (by first | rfl | assumption | (simp; done) | (simp; omega)) ?_
        (repeat (first | with_reducible refine W.region ?_ | refine z_p (kk := ?_)))
        refine Ops.pushO (enc := Value.int .i64) (u := (i : Int)) rfl rfl rfl rfl rfl rfl rfl rfl rfl rfl rfl rfl (fun _ => rfl) rfl (hO.base hb1.size) (by omega) (fun lv' p w3 hO3 k3 hn3 => ?_)
        replace hO3 := LO.put hO3 hb1.size
        have hb3 : Below w.heap.size w w3 := Below.put hb1 k3 (fun j hj => hO.ge j hj)
        rw [show intL acc ++ [(i : Int)] = intL (acc ++ [i]) by simp [intL]] at hO3
        (repeat (first | with_reducible refine Ops.nil ?_ | with_reducible refine W.region ?_ | refine z_p (kk := ?_) | refine z_a (kk := ?_) | with_reducible refine W.endb ?_))
        exact W.endl ⟨_, _, ⟨⟨i + 1, acc ++ [i], lv', rfl, by omega, rfl, hb3, hO3, by rw [← heq]; simp, by simp; omega, by omega⟩, by omega⟩, (by repeat (first | exact trivial | refine And.intro rfl ?_))⟩
      · have f2 : (((y : Nat) : Int) == 41) = false := by rw [beq_eq_false_iff_ne]; omega
        rw [if_neg (fun h => h41 h.2)] at heq
        (repeat (first | with_reducible refine W.seq ?_ | with_reducible refine Ops.nil ?_ | with_reducible refine W.region ?_ | refine z_p (kk := ?_) | refine z_a (kk := ?_) | refine z_ev (EV.slen rfl rfl rfl) (kk := ?_)))
        refine W.condT rfl (by first | (simp; done) | (simp; omega)) ?_
        (repeat (first | with_reducible refine W.seq ?_ | with_reducible refine Ops.nil ?_ | with_reducible refine W.region ?_ | refine z_p (kk := ?_) | refine z_a (kk := ?_) | refine z_y (kk := ?_) | with_reducible refine W.skip ?_ | with_reducible refine W.block ?_ | refine z_ev (EV.sidx rfl rfl rfl rfl (by omega)) (kk := ?_) | refine z_h (kk := ?_)))
        rw [hx]
        skip
        rw [show (i : Int) + 1 = ((i + 1 : Nat) : Int) by omega]
        skip
        rw [hy]
        skip
        refine W.condF rfl (by first | rfl | assumption | (simp; done) | (simp; omega)) ?_
        (repeat (first | with_reducible refine Ops.nil ?_ | with_reducible refine W.region ?_ | refine z_p (kk := ?_) | refine z_a (kk := ?_) | with_reducible refine W.skip ?_ | with_reducible refine W.endb ?_))
        exact W.endl ⟨_, _, ⟨⟨i + 1, acc, lv, rfl, by omega, rfl, hb1, hO, heq, by omega, by omega⟩, by omega⟩, (by repeat (first | exact trivial | refine And.intro rfl ?_))⟩
    · have f1 : (((x : Nat) : Int) == 40) = false := by rw [beq_eq_false_iff_ne]; omega
      rw [if_neg (fun h => h40 h.1)] at heq
      (repeat (first | with_reducible refine W.seq ?_ | with_reducible refine Ops.nil ?_ | with_reducible refine W.region ?_ | refine z_p (kk := ?_) | refine z_a (kk := ?_) | refine z_ev (EV.slen rfl rfl rfl) (kk := ?_)))
      refine W.condT rfl (by first | (simp; done) | (simp; omega)) ?_
      (repeat (first | with_reducible refine W.seq ?_ | with_reducible refine Ops.nil ?_ | with_reducible refine W.region ?_ | refine z_p (kk := ?_) | refine z_n (kk := ?_) | with_reducible refine W.skip ?_ | with_reducible refine W.block ?_ | refine z_ev (EV.sidx rfl rfl rfl rfl (by omega)) (kk := ?_) | refine z_g (kk := ?_)))
      rw [hx]
      skip
      refine W.condF rfl (by first | rfl | assumption | (simp; done) | (simp; omega)) ?_
      (repeat (first | with_reducible refine Ops.nil ?_ | with_reducible refine W.region ?_ | refine z_p (kk := ?_) | refine z_a (kk := ?_) | with_reducible refine W.skip ?_ | with_reducible refine W.endb ?_))
      exact W.endl ⟨_, _, ⟨⟨i + 1, acc, lv, rfl, by omega, rfl, hb1, hO, heq, by omega, by omega⟩, by omega⟩, (by repeat (first | exact trivial | refine And.intro rfl ?_))⟩
  · rw [pairs_stop hg, List.append_nil] at heq
    subst heq
    (repeat (first | with_reducible refine W.seq ?_ | with_reducible refine Ops.nil ?_ | with_reducible refine W.region ?_ | refine z_p (kk := ?_) | refine z_a (kk := ?_) | refine z_ev (EV.slen rfl rfl rfl) (kk := ?_)))
    refine W.condF rfl (by first | (simp; done) | (simp; omega)) ?_
    (repeat (first | with_reducible refine W.seq ?_ | with_reducible refine Ops.nil ?_ | with_reducible refine W.region ?_ | refine z_p (kk := ?_) | refine W.exit rfl ?_))
    exact W.fret rfl ⟨hO, hb1⟩
end Go.Proofs.YtcmjlmnfdncajaaGreatDoor
/- Plain: a head cut off in a string. -/
namespace Go.Proofs.YtcmjlmnfdncajaaGreatDoor.TW
theorem tx_sub : ∀ (f : Fo) (j : Nat) (t : By), j < 2 * szF f → (∃ u, (txF f ++ t).drop j = 41 :: u) ∨ ∃ k u, (txF f ++ t).drop j = 40 :: (txF k ++ 41 :: u) ∧ j + 2 + 2 * szF k ≤ 2 * szF f
  | .nil, j, t, h => by simp [szF] at h
  | .cons k r, j, t, h => by
    have e : txF (.cons k r) ++ t = 40 :: (txF k ++ (41 :: (txF r ++ t))) := by simp [txF]
    rw [e]
    simp only [szF] at h ⊢
    cases j with
    | zero => exact .inr ⟨k, txF r ++ t, rfl, by omega⟩
    | succ j =>
      rw [List.drop_succ_cons]
      by_cases h1 : j < 2 * szF k
      · rcases tx_sub k j (41 :: (txF r ++ t)) h1 with ⟨u, hu⟩ | ⟨k', u, hu, hk⟩
        · exact .inl ⟨u, hu⟩
        · exact .inr ⟨k', u, hu, by omega⟩
      · have hl := txF_len k
        rw [List.drop_append, List.drop_eq_nil_of_le (by omega), List.nil_append]
        by_cases h2 : j = 2 * szF k
        · rw [show j - (txF k).length = 0 by omega]
          exact .inl ⟨_, rfl⟩
        · rw [show j - (txF k).length = (j - 2 * szF k - 1) + 1 by omega, List.drop_succ_cons]
          rcases tx_sub r (j - 2 * szF k - 1) t (by omega) with ⟨u, hu⟩ | ⟨k', u, hu, hk⟩
          · exact .inl ⟨u, hu⟩
          · exact .inr ⟨k', u, hu, by omega⟩
def rpL : Nat → By → By
  | 0, _ => []
  | n + 1, w => w ++ rpL n w
theorem tx_rep : ∀ (n : Nat) (k r : Fo), txF (repF n k r) = rpL n (40 :: (txF k ++ [41])) ++ txF r
  | 0, k, r => rfl
  | n + 1, k, r => by
    have e : txF (repF (n + 1) k r) = 40 :: (txF k ++ 41 :: txF (repF n k r)) := rfl
    rw [e, tx_rep n k r]
    simp [rpL]
theorem chop_str : ∀ (f : Fo) (head n : Nat) (A B : By), head < heF f → ∃ p, (hpos f A.length)[head]? = some p ∧
    (((chF f head n).2 = true ∧ ∃ f1 f2, f = apF f1 (.cons .nil f2) ∧ (chF f head n).1 = apF f1 f2 ∧ p = A.length + 2 * szF f1) ∨
     ((chF f head n).2 = false ∧ ∃ A' k1 k2 B', A ++ (txF f ++ B) = A' ++ (40 :: (txF (apF k1 (.cons .nil k2)) ++ 41 :: B')) ∧ p = A'.length + 1 + 2 * szF k1 ∧ A.length ≤ A'.length ∧ A ++ (txF (chF f head n).1 ++ B) = A' ++ (rpL (n + 1) (40 :: (txF (apF k1 k2) ++ [41])) ++ B')))
  | .nil, head, n, A, B, h => by simp [heF] at h
  | .cons k r, head, n, A, B, h => by
    have hfst : (if szF k = 0 then [A.length] else hpos k (A.length + 1)).length = max 1 (heF k) := by
      split
      · rename_i hz
        have hk : k = .nil := by cases k with
          | nil => rfl
          | cons _ _ => simp only [szF] at hz; omega
        subst hk
        simp [heF]
      · rename_i hz
        have hk : k ≠ .nil := fun e => hz (by subst e; rfl)
        rw [hpos_len k]
        have := heF_pos hk
        omega
    rw [hpos_cons]
    by_cases hp : max 1 (heF k) ≤ head
    · rw [chF_past hp]
      have hl : (A ++ (40 :: (txF k ++ [41]))).length = A.length + 2 + 2 * szF k := by simp [txF_len]; omega
      obtain ⟨p, h1, h2⟩ := chop_str r (head - max 1 (heF k)) n (A ++ (40 :: (txF k ++ [41]))) B (by simp only [heF] at h; omega)
      rw [hl] at h1 h2
      refine ⟨p, by rw [List.getElem?_append_right (by omega), hfst]; exact h1, ?_⟩
      have e : ∀ r' : Fo, A ++ (txF (.cons k r') ++ B) = (A ++ (40 :: (txF k ++ [41]))) ++ (txF r' ++ B) := fun r' => by simp [txF]
      rcases h2 with ⟨g1, f1, f2, g2, g3, g4⟩ | ⟨g1, A', k1, k2, B', g2, g3, g4, g5⟩
      · exact .inl ⟨g1, .cons k f1, f2, by rw [g2]; rfl, by rw [g3]; rfl, by simp only [szF]; omega⟩
      · exact .inr ⟨g1, A', k1, k2, B', by rw [e, g2], g3, by omega, by rw [e, g5]⟩
    · by_cases hk : k = .nil
      · subst hk
        have h0 : head = 0 := by simp only [heF] at hp; omega
        subst h0
        rw [chF_head]
        exact ⟨A.length, rfl, .inl ⟨rfl, .nil, r, rfl, rfl, by simp [szF]⟩⟩
      · have hhe := heF_pos hk
        have hz : ¬ szF k = 0 := fun hz => hk (by cases k with
          | nil => rfl
          | cons _ _ => simp only [szF] at hz; omega)
        rw [chF_in hp hk, if_neg hz]
        rw [if_neg hz] at hfst
        have hl : (A ++ [40]).length = A.length + 1 := by simp
        obtain ⟨p, h1, h2⟩ := chop_str k head n (A ++ [40]) (41 :: (txF r ++ B)) (by omega)
        rw [hl] at h1 h2
        refine ⟨p, by rw [List.getElem?_append_left (by omega)]; exact h1, .inr ⟨rfl, ?_⟩⟩
        have e : ∀ k' r' : Fo, A ++ (txF (.cons k' r') ++ B) = (A ++ [40]) ++ (txF k' ++ (41 :: (txF r' ++ B))) := fun k' r' => by simp [txF]
        rcases h2 with ⟨g1, f1, f2, g2, g3, g4⟩ | ⟨g1, A', k1, k2, B', g2, g3, g4, g5⟩
        · rw [if_pos g1]
          refine ⟨A, f1, f2, txF r ++ B, ?_, by omega, Nat.le_refl _, ?_⟩
          · rw [e, ← g2]; simp
          · rw [g3, e, tx_rep]
            simp [rpL]
        · rw [if_neg (by rw [g1]; simp)]
          exact ⟨A', k1, k2, B', by rw [e, g2], g3, by omega, by rw [e, g5]⟩
end Go.Proofs.YtcmjlmnfdncajaaGreatDoor.TW
