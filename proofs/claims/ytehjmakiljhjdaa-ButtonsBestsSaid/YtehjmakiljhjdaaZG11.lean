/- A part of the walk: what this seat's statements share. -/
import Derived.Test.YtehjmakiljhjdaaZG10
import Derived.Test.YtehjmakiljhjdaaZG3
import Derived.Test.YtehjmakiljhjdaaZG4
set_option linter.unusedVariables false
set_option linter.unusedSimpArgs false
set_option linter.unusedSectionVars false
/- Blocks exchanged, and rotated. -/
namespace Go.Proofs.Ytehjmakiljhjdaa.HP
/-- os' is os with the i numbers from a, and those from b, exchanged. -/
structure SwR (a b i : Nat) (os os' : List Int) : Prop where
  seg : ∀ lo hi : Nat, lo ≤ a → b + i ≤ hi → SegP lo hi os os'
  low : ∀ x : Nat, a ≤ x → x < a + i → os'.getD x 0 = os.getD (x + (b - a)) 0
  upp : ∀ x : Nat, b ≤ x → x < b + i → os'.getD x 0 = os.getD (x - (b - a)) 0
  out : ∀ x : Nat, x < a ∨ (a + i ≤ x ∧ x < b) ∨ b + i ≤ x → os'.getD x 0 = os.getD x 0
theorem SwR.start (a b : Nat) (os : List Int) : SwR a b 0 os os :=
  ⟨fun _ _ _ _ => SegP.refl _ _ _, fun x h1 h2 => by omega, fun x h1 h2 => by omega, fun _ _ => rfl⟩
theorem SwR.step {a b i : Nat} {os os' : List Int} (h : SwR a b i os os') (hab : a + i < b) (hb : b + i < os.length) : SwR a b (i + 1) os (swp os' (a + i) (b + i)) := by
  have hl : os'.length = os.length := (h.seg a (b + i) (Nat.le_refl _) (Nat.le_refl _)).len
  have g : ∀ p : Nat, (swp os' (a + i) (b + i)).getD p 0 = if p = b + i then os'.getD (a + i) 0 else if p = a + i then os'.getD (b + i) 0 else os'.getD p 0 := fun p => swp_getD (by omega) (by omega)
  refine ⟨fun lo hi h1 h2 => (h.seg lo hi h1 (by omega)).trans (swp_seg (by omega) (by omega) (by omega) (by omega) (by omega) (by omega)), fun x h1 h2 => ?_, fun x h1 h2 => ?_, fun x hx => ?_⟩
  · rw [g, if_neg (by omega)]
    by_cases e : x = a + i
    · rw [if_pos e, h.out _ (by omega)]; congr 1; omega
    · rw [if_neg e]; exact h.low x h1 (by omega)
  · rw [g]
    by_cases e : x = b + i
    · rw [if_pos e, h.out _ (by omega)]; congr 1; omega
    · rw [if_neg e, if_neg (by omega)]; exact h.upp x h1 (by omega)
  · rw [g, if_neg (by omega), if_neg (by omega)]; exact h.out x (by omega)
/-- On the way of a rotation: T is what it comes to; the i numbers before m and the j numbers from m are still to be exchanged. -/
structure Rot (T : Nat → Int) (a m b i j : Nat) (os0 os : List Int) : Prop where
  seg : SegP a b os0 os
  ia : a + i ≤ m
  jb : m + j ≤ b
  lo : ∀ x : Nat, a ≤ x → x < m - i → os.getD x 0 = T x
  hi : ∀ x : Nat, m + j ≤ x → x < b → os.getD x 0 = T x
  l : ∀ x : Nat, m - i ≤ x → x < m - i + j → os.getD (x + i) 0 = T x
  r : ∀ x : Nat, m - i + j ≤ x → x < m + j → os.getD (x - j) 0 = T x
/-- What a rotation comes to. -/
def rotT (os : List Int) (a m b : Nat) (x : Nat) : Int := if x < a + (b - m) then os.getD (x + (m - a)) 0 else os.getD (x - (b - m)) 0
theorem Rot.start {a m b : Nat} (os : List Int) (h1 : a ≤ m) (h2 : m ≤ b) : Rot (rotT os a m b) a m b (m - a) (b - m) os os :=
  ⟨SegP.refl _ _ _, by omega, by omega, fun x h1 h2 => by omega, fun x h1 h2 => by omega, fun x h3 h4 => by unfold rotT; rw [if_pos (by omega)], fun x h3 h4 => by unfold rotT; rw [if_neg (by omega)]⟩
theorem Rot.left {T : Nat → Int} {a m b i j : Nat} {os0 os os' : List Int} (h : Rot T a m b i j os0 os) (hij : j < i) (s : SwR (m - i) m j os os') : Rot T a m b (i - j) j os0 os' := by
  have ia := h.ia; have jb := h.jb
  refine ⟨h.seg.trans (s.seg a b (by omega) (by omega)), by omega, h.jb, fun x h1 h2 => ?_, fun x h1 h2 => ?_, fun x h1 h2 => ?_, fun x h1 h2 => ?_⟩
  · by_cases e : x < m - i
    · rw [s.out _ (by omega)]; exact h.lo x h1 e
    · rw [s.low _ (by omega) (by omega), show x + (m - (m - i)) = x + i by omega]; exact h.l x (by omega) (by omega)
  · rw [s.out _ (by omega)]; exact h.hi x h1 h2
  · by_cases e : x + (i - j) < m
    · omega
    · rw [s.upp _ (by omega) (by omega), show x + (i - j) - (m - (m - i)) = x - j by omega]; exact h.r x (by omega) (by omega)
  · rw [s.out _ (by omega)]; exact h.r x (by omega) h2
theorem Rot.right {T : Nat → Int} {a m b i j : Nat} {os0 os os' : List Int} (h : Rot T a m b i j os0 os) (hij : i < j) (s : SwR (m - i) (m + j - i) i os os') : Rot T a m b i (j - i) os0 os' := by
  have ia := h.ia; have jb := h.jb
  refine ⟨h.seg.trans (s.seg a b (by omega) (by omega)), h.ia, by omega, fun x h1 h2 => ?_, fun x h1 h2 => ?_, fun x h1 h2 => ?_, fun x h1 h2 => ?_⟩
  · rw [s.out _ (by omega)]; exact h.lo x h1 h2
  · by_cases e : x < m + j
    · rw [s.upp _ (by omega) (by omega), show x - (m + j - i - (m - i)) = x - j by omega]; exact h.r x (by omega) (by omega)
    · rw [s.out _ (by omega)]; exact h.hi x (by omega) h2
  · rw [s.out _ (by omega)]; exact h.l x h1 (by omega)
  · by_cases e : x - (j - i) < m
    · rw [s.low _ (by omega) (by omega), show x - (j - i) + (m + j - i - (m - i)) = x + i by omega]; exact h.l x (by omega) (by omega)
    · omega
theorem Rot.done {T : Nat → Int} {a m b i : Nat} {os0 os os' : List Int} (h : Rot T a m b i i os0 os) (s : SwR (m - i) m i os os') : SegP a b os0 os' ∧ ∀ x : Nat, a ≤ x → x < b → os'.getD x 0 = T x := by
  have ia := h.ia; have jb := h.jb
  refine ⟨h.seg.trans (s.seg a b (by omega) (by omega)), fun x h1 h2 => ?_⟩
  by_cases e1 : x < m - i
  · rw [s.out _ (by omega)]; exact h.lo x h1 e1
  · by_cases e2 : x < m
    · rw [s.low _ (by omega) (by omega), show x + (m - (m - i)) = x + i by omega]; exact h.l x (by omega) (by omega)
    · by_cases e3 : x < m + i
      · rw [s.upp _ (by omega) (by omega), show x - (m - (m - i)) = x - i by omega]; exact h.r x (by omega) (by omega)
      · rw [s.out _ (by omega)]; exact h.hi x (by omega) h2
end Go.Proofs.Ytehjmakiljhjdaa.HP
/- Two sorted parts that are merged by exchanges. -/
namespace Go.Proofs.Ytehjmakiljhjdaa.HP
/-- The number at place a has gone up to place k. -/
structure MvU (a k : Nat) (os os' : List Int) : Prop where
  seg : SegP a (k + 1) os os'
  low : ∀ x : Nat, a ≤ x → x < k → os'.getD x 0 = os.getD (x + 1) 0
  cur : os'.getD k 0 = os.getD a 0
  ak : a ≤ k
theorem MvU.start (a : Nat) (os : List Int) : MvU a a os os := ⟨SegP.refl _ _ _, fun x h1 h2 => by omega, rfl, Nat.le_refl _⟩
theorem MvU.step {a k : Nat} {os os' : List Int} (h : MvU a k os os') (hk : k + 1 < os.length) : MvU a (k + 1) os (swp os' k (k + 1)) := by
  have hl := h.seg.len
  have ak := h.ak
  have g : ∀ p : Nat, (swp os' k (k + 1)).getD p 0 = if p = k + 1 then os'.getD k 0 else if p = k then os'.getD (k + 1) 0 else os'.getD p 0 := fun p => swp_getD (by omega) (by omega)
  refine ⟨(h.seg.wide (Nat.le_refl _) (by omega)).trans (swp_seg (by omega) (by omega) (by omega) (by omega) (by omega) (by omega)), fun x h1 h2 => ?_, ?_, by omega⟩
  · rw [g, if_neg (by omega)]
    by_cases e : x = k
    · rw [if_pos e, h.seg.out _ (by omega), e]
    · rw [if_neg e]; exact h.low x h1 (by omega)
  · rw [g, if_pos rfl]; exact h.cur
/-- The number at place m has gone down to place k. -/
structure MvD (m k : Nat) (os os' : List Int) : Prop where
  seg : SegP k (m + 1) os os'
  upp : ∀ x : Nat, k < x → x ≤ m → os'.getD x 0 = os.getD (x - 1) 0
  cur : os'.getD k 0 = os.getD m 0
  km : k ≤ m
theorem MvD.start (m : Nat) (os : List Int) : MvD m m os os := ⟨SegP.refl _ _ _, fun x h1 h2 => by omega, rfl, Nat.le_refl _⟩
theorem MvD.step {m k : Nat} {os os' : List Int} (h : MvD m (k + 1) os os') (hm : m < os.length) : MvD m k os (swp os' (k + 1) k) := by
  have hl := h.seg.len
  have km := h.km
  have g : ∀ p : Nat, (swp os' (k + 1) k).getD p 0 = if p = k then os'.getD (k + 1) 0 else if p = k + 1 then os'.getD k 0 else os'.getD p 0 := fun p => swp_getD (by omega) (by omega)
  refine ⟨(h.seg.wide (by omega) (Nat.le_refl _)).trans (swp_seg (by omega) (by omega) (by omega) (by omega) (by omega) (by omega)), fun x h1 h2 => ?_, ?_, by omega⟩
  · rw [g, if_neg (by omega)]
    by_cases e : x = k + 1
    · rw [if_pos e, h.seg.out _ (by omega)]; congr 1; omega
    · rw [if_neg e]; exact h.upp x (by omega) h2
  · rw [g, if_pos rfl]; exact h.cur
/-- The search of the place of the first number, alone in its part. -/
structure LoS (K : Int → Int) (os : List Int) (a m b i j : Nat) : Prop where
  mi : m ≤ i
  ij : i ≤ j
  jb : j ≤ b
  lo : ∀ x : Nat, m ≤ x → x < i → K (os.getD x 0) < K (os.getD a 0)
  hi : ∀ x : Nat, j ≤ x → x < b → K (os.getD a 0) < K (os.getD x 0)
theorem LoS.up {K : Int → Int} {os : List Int} {a m b i j h : Nat} (s : LoS K os a m b i j) (hs : SortK K os m b) (h1 : i ≤ h) (h2 : h < j) (hk : K (os.getD h 0) < K (os.getD a 0)) : LoS K os a m b (h + 1) j := by
  have := s.mi; have := s.jb
  refine ⟨by omega, by omega, s.jb, fun x h3 h4 => ?_, s.hi⟩
  by_cases e : x = h
  · rw [e]; exact hk
  · exact Int.lt_trans (hs x h h3 (by omega) (by omega)) hk
theorem LoS.down {K : Int → Int} {os : List Int} {a m b i j h : Nat} (s : LoS K os a m b i j) (hs : SortK K os m b) (h1 : i ≤ h) (h2 : h < j) (hk : K (os.getD a 0) < K (os.getD h 0)) : LoS K os a m b i h := by
  have := s.mi; have := s.jb
  refine ⟨s.mi, h1, by omega, s.lo, fun x h3 h4 => ?_⟩
  by_cases e : x = h
  · rw [e]; exact hk
  · exact Int.lt_trans hk (hs h x (by omega) (by omega) h4)
theorem LoS.done {K : Int → Int} {os os' : List Int} {a m b i : Nat} (s : LoS K os a m b i i) (hm : m = a + 1) (hs : SortK K os m b) (mv : MvU a (i - 1) os os') : SegP a b os os' ∧ SortK K os' a b := by
  have := s.mi; have := s.jb
  refine ⟨mv.seg.wide (Nat.le_refl _) (by omega), fun p q h1 h2 h3 => ?_⟩
  have ol : ∀ x : Nat, i ≤ x → os'.getD x 0 = os.getD x 0 := fun x h => mv.seg.out x (by omega)
  by_cases e1 : q < i - 1
  · rw [mv.low p h1 (by omega), mv.low q (by omega) e1]; exact hs _ _ (by omega) (by omega) (by omega)
  · by_cases e2 : q = i - 1
    · rw [e2, mv.cur, mv.low p h1 (by omega)]; exact s.lo _ (by omega) (by omega)
    · rw [ol q (by omega)]
      by_cases e3 : p < i - 1
      · rw [mv.low p h1 e3]; exact hs _ _ (by omega) (by omega) (by omega)
      · by_cases e4 : p = i - 1
        · rw [e4, mv.cur]; exact s.hi q (by omega) h3
        · rw [ol p (by omega)]; exact hs p q (by omega) h2 h3
/-- The search of the place of the last number, alone in its part. -/
structure HiS (K : Int → Int) (os : List Int) (a m i j : Nat) : Prop where
  ai : a ≤ i
  ij : i ≤ j
  jm : j ≤ m
  lo : ∀ x : Nat, a ≤ x → x < i → K (os.getD x 0) < K (os.getD m 0)
  hi : ∀ x : Nat, j ≤ x → x < m → K (os.getD m 0) < K (os.getD x 0)
theorem HiS.up {K : Int → Int} {os : List Int} {a m i j h : Nat} (s : HiS K os a m i j) (hs : SortK K os a m) (h1 : i ≤ h) (h2 : h < j) (hk : K (os.getD h 0) < K (os.getD m 0)) : HiS K os a m (h + 1) j := by
  have := s.ai; have := s.jm
  refine ⟨by omega, by omega, s.jm, fun x h3 h4 => ?_, s.hi⟩
  by_cases e : x = h
  · rw [e]; exact hk
  · exact Int.lt_trans (hs x h h3 (by omega) (by omega)) hk
theorem HiS.down {K : Int → Int} {os : List Int} {a m i j h : Nat} (s : HiS K os a m i j) (hs : SortK K os a m) (h1 : i ≤ h) (h2 : h < j) (hk : K (os.getD m 0) < K (os.getD h 0)) : HiS K os a m i h := by
  have := s.ai; have := s.jm
  refine ⟨s.ai, h1, by omega, s.lo, fun x h3 h4 => ?_⟩
  by_cases e : x = h
  · rw [e]; exact hk
  · exact Int.lt_trans hk (hs h x (by omega) (by omega) h4)
theorem HiS.done {K : Int → Int} {os os' : List Int} {a m i : Nat} (s : HiS K os a m i i) (hs : SortK K os a m) (mv : MvD m i os os') : SegP a (m + 1) os os' ∧ SortK K os' a (m + 1) := by
  have := s.ai; have := s.jm
  refine ⟨mv.seg.wide (by omega) (Nat.le_refl _), fun p q h1 h2 h3 => ?_⟩
  have ol : ∀ x : Nat, x < i → os'.getD x 0 = os.getD x 0 := fun x h => mv.seg.out x (by omega)
  by_cases e1 : q < i
  · rw [ol p (by omega), ol q e1]; exact hs _ _ (by omega) (by omega) (by omega)
  · by_cases e2 : q = i
    · rw [e2, mv.cur, ol p (by omega)]; exact s.lo _ (by omega) (by omega)
    · rw [mv.upp q (by omega) (by omega)]
      by_cases e3 : p < i
      · rw [ol p e3]; exact hs _ _ (by omega) (by omega) (by omega)
      · by_cases e4 : p = i
        · rw [e4, mv.cur]; exact s.hi _ (by omega) (by omega)
        · rw [mv.upp p (by omega) (by omega)]; exact hs _ _ (by omega) (by omega) (by omega)
/-- The search of the place at which both parts are cut. -/
structure MiS (K : Int → Int) (os : List Int) (a m b i j : Nat) : Prop where
  ij : i ≤ j
  rng : (((a + b) / 2 < m ∧ (a + b) / 2 + m ≤ i + b ∧ j ≤ (a + b) / 2) ∨ (m ≤ (a + b) / 2 ∧ a ≤ i ∧ j ≤ m))
  lo : ((a + b) / 2 < m ∧ i + b = (a + b) / 2 + m) ∨ (m ≤ (a + b) / 2 ∧ i = a) ∨ (1 ≤ i ∧ K (os.getD (i - 1) 0) < K (os.getD ((a + b) / 2 + m - i) 0))
  hi : ((a + b) / 2 < m ∧ j = (a + b) / 2) ∨ (m ≤ (a + b) / 2 ∧ j = m) ∨ K (os.getD ((a + b) / 2 + m - 1 - j) 0) < K (os.getD j 0)
theorem MiS.up {K : Int → Int} {os : List Int} {a m b i j h : Nat} (s : MiS K os a m b i j) (h1 : i ≤ h) (h2 : h < j) (hk : K (os.getD h 0) < K (os.getD ((a + b) / 2 + m - 1 - h) 0)) : MiS K os a m b (h + 1) j := by
  have rng := s.rng
  refine ⟨by omega, by omega, .inr (.inr ⟨by omega, ?_⟩), s.hi⟩
  rw [show h + 1 - 1 = h by omega, show (a + b) / 2 + m - (h + 1) = (a + b) / 2 + m - 1 - h by omega]; exact hk
theorem MiS.down {K : Int → Int} {os : List Int} {a m b i j h : Nat} (s : MiS K os a m b i j) (h1 : i ≤ h) (h2 : h < j) (hk : K (os.getD ((a + b) / 2 + m - 1 - h) 0) < K (os.getD h 0)) : MiS K os a m b i h := by
  have rng := s.rng
  exact ⟨h1, by omega, s.lo, .inr (.inr hk)⟩
/-- What the rotation between both cuts leaves. -/
structure Cut (K : Int → Int) (a b mid s : Nat) (e : Nat) (os : List Int) : Prop where
  as_ : a ≤ s
  sm : s ≤ mid
  me : mid ≤ e
  eb : e ≤ b
  s1 : SortK K os a s
  s2 : SortK K os s mid
  s3 : SortK K os mid e
  s4 : SortK K os e b
  sep : ∀ p q : Nat, a ≤ p → p < mid → mid ≤ q → q < b → K (os.getD p 0) < K (os.getD q 0)
theorem MiS.cut {K : Int → Int} {os ns : List Int} {a m b s : Nat} (h : MiS K os a m b s s) (ham : a < m) (hmb : m < b) (h1 : SortK K os a m) (h2 : SortK K os m b)
    (hT : ∀ x : Nat, a ≤ x → x < b → ns.getD x 0 = if x < s then os.getD x 0 else if x < (a + b) / 2 then os.getD (x + (m - s)) 0 else if x < (a + b) / 2 + m - s then os.getD (x - ((a + b) / 2 - s)) 0 else os.getD x 0) :
    Cut K a b ((a + b) / 2) s ((a + b) / 2 + m - s) ns ∧ (∀ p : Nat, a ≤ p → p < s → ∃ p' : Nat, a ≤ p' ∧ p' < m ∧ ns.getD p 0 = os.getD p' 0) ∧ (∀ p : Nat, s ≤ p → p < (a + b) / 2 → ∃ p' : Nat, m ≤ p' ∧ p' < b ∧ ns.getD p 0 = os.getD p' 0)
      ∧ (∀ p : Nat, (a + b) / 2 ≤ p → p < (a + b) / 2 + m - s → ∃ p' : Nat, a ≤ p' ∧ p' < m ∧ ns.getD p 0 = os.getD p' 0) ∧ (∀ p : Nat, (a + b) / 2 + m - s ≤ p → p < b → ∃ p' : Nat, m ≤ p' ∧ p' < b ∧ ns.getD p 0 = os.getD p' 0) := by
  have rng := h.rng; have lo := h.lo; have hi := h.hi
  generalize hmid : (a + b) / 2 = mid at *
  have hsm : s ≤ mid := by omega
  have hsm' : s ≤ m := by omega
  have t1 : ∀ x : Nat, a ≤ x → x < s → ns.getD x 0 = os.getD x 0 := fun x e1 e2 => by rw [hT x e1 (by omega), if_pos e2]
  have t2 : ∀ x : Nat, s ≤ x → x < mid → ns.getD x 0 = os.getD (x + (m - s)) 0 := fun x e1 e2 => by rw [hT x (by omega) (by omega), if_neg (by omega), if_pos e2]
  have t3 : ∀ x : Nat, mid ≤ x → x < mid + m - s → ns.getD x 0 = os.getD (x - (mid - s)) 0 := fun x e1 e2 => by rw [hT x (by omega) (by omega), if_neg (by omega), if_neg (by omega), if_pos e2]
  have t4 : ∀ x : Nat, mid + m - s ≤ x → x < b → ns.getD x 0 = os.getD x 0 := fun x e1 e2 => by rw [hT x (by omega) (by omega), if_neg (by omega), if_neg (by omega), if_neg (by omega)]
  -- a before s, end and behind
  have x1 : ∀ p q : Nat, a ≤ p → p < s → mid + m - s ≤ q → q < b → K (os.getD p 0) < K (os.getD q 0) := fun p q e1 e2 e3 e4 => by
    have : 1 ≤ s ∧ K (os.getD (s - 1) 0) < K (os.getD (mid + m - s) 0) := by
      rcases lo with l | l | l
      · omega
      · omega
      · exact l
    have y1 : K (os.getD p 0) ≤ K (os.getD (s - 1) 0) := by
      by_cases e : p = s - 1
      · rw [e]; exact Int.le_refl _
      · exact Int.le_of_lt (h1 p (s - 1) e1 (by omega) (by omega))
    have y2 : K (os.getD (mid + m - s) 0) ≤ K (os.getD q 0) := by
      by_cases e : q = mid + m - s
      · rw [e]; exact Int.le_refl _
      · exact Int.le_of_lt (h2 (mid + m - s) q (by omega) (by omega) (by omega))
    omega
  have x2 : ∀ p q : Nat, m ≤ p → p < mid + m - s → s ≤ q → q < m → K (os.getD p 0) < K (os.getD q 0) := fun p q e1 e2 e3 e4 => by
    have : K (os.getD (mid + m - 1 - s) 0) < K (os.getD s 0) := by
      rcases hi with l | l | l
      · omega
      · omega
      · exact l
    have y1 : K (os.getD p 0) ≤ K (os.getD (mid + m - 1 - s) 0) := by
      by_cases e : p = mid + m - 1 - s
      · rw [e]; exact Int.le_refl _
      · exact Int.le_of_lt (h2 p (mid + m - 1 - s) e1 (by omega) (by omega))
    have y2 : K (os.getD s 0) ≤ K (os.getD q 0) := by
      by_cases e : q = s
      · rw [e]; exact Int.le_refl _
      · exact Int.le_of_lt (h1 s q (by omega) (by omega) (by omega))
    omega
  refine ⟨⟨by omega, hsm, by omega, by omega, fun p q e1 e2 e3 => ?_, fun p q e1 e2 e3 => ?_, fun p q e1 e2 e3 => ?_, fun p q e1 e2 e3 => ?_, fun p q e1 e2 e3 e4 => ?_⟩,
    fun p e1 e2 => ⟨p, e1, by omega, t1 p e1 e2⟩, fun p e1 e2 => ⟨_, by omega, by omega, t2 p e1 e2⟩, fun p e1 e2 => ⟨_, by omega, by omega, t3 p e1 e2⟩, fun p e1 e2 => ⟨p, by omega, e2, t4 p e1 e2⟩⟩
  · rw [t1 p e1 (by omega), t1 q (by omega) e3]; exact h1 p q e1 e2 (by omega)
  · rw [t2 p e1 (by omega), t2 q (by omega) e3]; exact h2 _ _ (by omega) (by omega) (by omega)
  · rw [t3 p e1 (by omega), t3 q (by omega) e3]; exact h1 _ _ (by omega) (by omega) (by omega)
  · rw [t4 p e1 (by omega), t4 q (by omega) e3]; exact h2 p q (by omega) e2 e3
  · by_cases f1 : p < s
    · rw [t1 p e1 f1]
      by_cases f2 : q < mid + m - s
      · rw [t3 q e3 f2]; exact h1 _ _ e1 (by omega) (by omega)
      · rw [t4 q (by omega) e4]; exact x1 p q e1 f1 (by omega) e4
    · rw [t2 p (by omega) e2]
      by_cases f2 : q < mid + m - s
      · rw [t3 q e3 f2]; exact x2 _ _ (by omega) (by omega) (by omega) (by omega)
      · rw [t4 q (by omega) e4]; exact h2 _ _ (by omega) (by omega) e4
/-- Both halves sorted by themselves. -/
theorem Cut.done {K : Int → Int} {a b mid s e : Nat} {os x y : List Int} (h : Cut K a b mid s e os) (s1 : SegP a mid os x) (k1 : SortK K x a mid) (s2 : SegP mid b x y) (k2 : SortK K y mid b) : SegP a b os y ∧ SortK K y a b := by
  have := h.as_; have := h.sm; have := h.me; have := h.eb
  refine ⟨(s1.wide (Nat.le_refl _) (by omega)).trans (s2.wide (by omega) (Nat.le_refl _)), fun p q h1 h2 h3 => ?_⟩
  by_cases e1 : q < mid
  · rw [s2.out p (by omega), s2.out q (by omega)]; exact k1 p q h1 h2 e1
  · by_cases e2 : mid ≤ p
    · exact k2 p q e2 h2 h3
    · rw [s2.out p (by omega)]
      obtain ⟨p', p1, p2, ep⟩ := s1.mem p h1 (by omega)
      obtain ⟨q', q1, q2, eq⟩ := s2.mem q (by omega) h3
      rw [ep, eq, s1.out q' (by omega)]
      exact h.sep p' q' p1 p2 q1 q2
end Go.Proofs.Ytehjmakiljhjdaa.HP
/- Blocks that are sorted by themselves. -/
namespace Go.Proofs.Ytehjmakiljhjdaa.HP
structure Blk (K : Int → Int) (bs n : Nat) (os0 os : List Int) : Prop where
  seg : SegP 0 n os0 os
  org : ∀ x : Nat, x < n → ∃ y : Nat, y < n ∧ y / bs = x / bs ∧ os.getD x 0 = os0.getD y 0
  srt : ∀ p q : Nat, p < q → q < n → p / bs = q / bs → K (os.getD p 0) < K (os.getD q 0)
theorem Blk.start (K : Int → Int) (bs : Nat) (os : List Int) : Blk K bs 0 os os := ⟨SegP.refl _ _ _, fun x h => by omega, fun p q _ h => by omega⟩
theorem Blk.ins {K : Int → Int} {t b : Nat} {os0 os os' : List Int} (h : Blk K 20 (20 * t) os0 os) (hb : b ≤ 20 * t + 20) (hb' : 20 * t ≤ b) (s : SegP (20 * t) b os os') (k : SortK K os' (20 * t) b) : Blk K 20 b os0 os' := by
  refine ⟨(h.seg.wide (Nat.le_refl _) hb').trans (s.wide (by omega) (Nat.le_refl _)), fun x hx => ?_, fun p q h1 h2 h3 => ?_⟩
  · by_cases e : x < 20 * t
    · obtain ⟨y, y1, y2, y3⟩ := h.org x e
      exact ⟨y, by omega, y2, by rw [s.out x (by omega), y3]⟩
    · obtain ⟨y, y1, y2, y3⟩ := s.mem x (by omega) hx
      exact ⟨y, y2, by omega, by rw [y3, h.seg.out y (by omega)]⟩
  · by_cases e : q < 20 * t
    · rw [s.out p (by omega), s.out q (by omega)]; exact h.srt p q h1 e h3
    · exact k p q (by omega) h1 h2
/-- Elements of two blocks stood in this order. -/
theorem Blk.ord {K : Int → Int} {bs n : Nat} {os0 os : List Int} (h : Blk K bs n os0 os) {p q : Nat} (hp : p < n) (hq : q < n) (hpq : p / bs < q / bs) : ∃ y z : Nat, y < z ∧ z < n ∧ os.getD p 0 = os0.getD y 0 ∧ os.getD q 0 = os0.getD z 0 := by
  obtain ⟨y, y1, y2, y3⟩ := h.org p hp
  obtain ⟨z, z1, z2, z3⟩ := h.org q hq
  refine ⟨y, z, ?_, z1, y3, z3⟩
  rcases Nat.lt_or_ge y z with e | e
  · exact e
  · have := Nat.div_le_div_right (c := bs) e
    omega
theorem Blk.all {K : Int → Int} {bs bs' n : Nat} {os0 os os' : List Int} (h : Blk K bs n os0 os) (s : SegP 0 n os os') (k : SortK K os' 0 n) (hn : n ≤ bs') : Blk K bs' n os0 os' := by
  refine ⟨h.seg.trans s, fun x hx => ?_, fun p q h1 h2 _ => k p q (by omega) h1 h2⟩
  obtain ⟨y, y1, y2, y3⟩ := (h.seg.trans s).mem x (by omega) hx
  exact ⟨y, y2, by rw [Nat.div_eq_of_lt (by omega), Nat.div_eq_of_lt (by omega)], y3⟩
theorem Blk.half {K : Int → Int} {n : Nat} {os0 os os' : List Int} (h : Blk K 20 n os0 os) (s : SegP 0 40 os os') (k : SortK K os' 0 40) (hn : n < 60) (hn' : 40 ≤ n) : Blk K 40 n os0 os' := by
  refine ⟨h.seg.trans (s.wide (Nat.le_refl _) hn'), fun x hx => ?_, fun p q h1 h2 h3 => ?_⟩
  · by_cases e : x < 40
    · obtain ⟨y, y1, y2, y3⟩ := s.mem x (by omega) e
      obtain ⟨z, z1, z2, z3⟩ := h.org y (by omega)
      exact ⟨z, z1, by omega, by rw [y3, z3]⟩
    · obtain ⟨z, z1, z2, z3⟩ := h.org x hx
      exact ⟨z, z1, by omega, by rw [s.out x (by omega), z3]⟩
  · by_cases e : q < 40
    · exact k p q (by omega) h1 e
    · rw [s.out p (by omega), s.out q (by omega)]; exact h.srt p q h1 h2 (by omega)
theorem Blk.skip {K : Int → Int} {n : Nat} {os0 os : List Int} {bs bs' : Nat} (h : Blk K bs n os0 os) (hn : n ≤ bs) (hn' : n ≤ bs') : Blk K bs' n os0 os :=
  ⟨h.seg, fun x hx => by
    obtain ⟨y, y1, y2, y3⟩ := h.org x hx
    exact ⟨y, y1, by rw [Nat.div_eq_of_lt (by omega), Nat.div_eq_of_lt (by omega)], y3⟩, fun p q h1 h2 h3 => h.srt p q h1 h2 (by rw [Nat.div_eq_of_lt (by omega), Nat.div_eq_of_lt (by omega)])⟩
theorem Blk.sorted {K : Int → Int} {n bs : Nat} {os0 os : List Int} (h : Blk K bs n os0 os) (hn : n ≤ bs) : SortK K os 0 n :=
  fun p q _ h2 h3 => h.srt p q h2 h3 (by rw [Nat.div_eq_of_lt (by omega), Nat.div_eq_of_lt (by omega)])
end Go.Proofs.Ytehjmakiljhjdaa.HP
/- Insertion sort by numbers. -/
namespace Go.Proofs.Ytehjmakiljhjdaa.HP
/-- Element i on its way down, at place j. -/
structure InsI (K : Int → Int) (os0 : List Int) (a i j : Nat) (os : List Int) : Prop where
  seg : SegP a (i + 1) os0 os
  cur : os.getD j 0 = os0.getD i 0
  aj : a ≤ j
  ji : j ≤ i
  srt : ∀ p q : Nat, a ≤ p → p < q → q < i + 1 → p ≠ j → q ≠ j → K (os.getD p 0) < K (os.getD q 0)
  up : ∀ q : Nat, j < q → q < i + 1 → K (os0.getD i 0) < K (os.getD q 0)
  old : ∀ p : Nat, a ≤ p → p < i + 1 → p ≠ j → ∃ q : Nat, a ≤ q ∧ q < i ∧ os.getD p 0 = os0.getD q 0
theorem InsI.start {K : Int → Int} {os0 os : List Int} {a i : Nat} (h : SegP a i os0 os) (hs : SortK K os a i) (ha : a ≤ i) : InsI K os0 a i i os :=
  ⟨h.wide (Nat.le_refl _) (by omega), h.out i (by omega), ha, Nat.le_refl _, fun p q h1 h2 h3 h4 h5 => hs p q h1 h2 (by omega), fun q h1 h2 => by omega, fun p h1 h2 h3 => h.mem p h1 (by omega)⟩
theorem InsI.step {K : Int → Int} {os0 os : List Int} {a i j : Nat} (h : InsI K os0 a i (j + 1) os) (hi : i < os0.length) (ha : a ≤ j) (hlt : K (os0.getD i 0) < K (os.getD j 0)) : InsI K os0 a i j (swp os (j + 1) j) := by
  have hl := h.seg.len
  have hji := h.ji
  have g : ∀ p : Nat, (swp os (j + 1) j).getD p 0 = if p = j then os.getD (j + 1) 0 else if p = j + 1 then os.getD j 0 else os.getD p 0 := fun p => swp_getD (by omega) (by omega)
  refine ⟨h.seg.trans (swp_seg (by omega) (by omega) (by omega) (by omega) (by omega) (by omega)), ?_, ha, by omega, fun p q h1 h2 h3 h4 h5 => ?_, fun q h1 h2 => ?_, fun p h1 h2 h3 => ?_⟩
  · rw [g, if_pos rfl, h.cur]
  · rw [g, g, if_neg h4, if_neg h5]
    by_cases e1 : p = j + 1
    · rw [if_pos e1, if_neg (by omega)]
      exact h.srt j q (by omega) (by omega) h3 (by omega) (by omega)
    · rw [if_neg e1]
      by_cases e2 : q = j + 1
      · rw [if_pos e2]; exact h.srt p j h1 (by omega) (by omega) (by omega) (by omega)
      · rw [if_neg e2]; exact h.srt p q h1 h2 h3 (by omega) (by omega)
  · rw [g, if_neg (by omega)]
    by_cases e : q = j + 1
    · rw [if_pos e]; exact hlt
    · rw [if_neg e]; exact h.up q (by omega) h2
  · rw [g, if_neg h3]
    by_cases e : p = j + 1
    · rw [if_pos e]; exact h.old j ha (by omega) (by omega)
    · rw [if_neg e]; exact h.old p h1 h2 (by omega)
theorem InsI.done {K : Int → Int} {os0 os : List Int} {a i j : Nat} (h : InsI K os0 a i j os) (hd : j = a ∨ ∃ m : Nat, j = m + 1 ∧ K (os.getD m 0) < K (os0.getD i 0)) : SortK K os a (i + 1) := by
  intro p q h1 h2 h3
  have hji := h.ji
  by_cases e1 : p = j
  · subst e1; rw [h.cur]; exact h.up q h2 h3
  · by_cases e2 : q = j
    · subst e2
      rw [h.cur]
      rcases hd with hd | ⟨m, hm, hk⟩
      · omega
      · by_cases e : p = m
        · subst e; exact hk
        · exact Int.lt_trans (h.srt p m h1 (by omega) (by omega) e1 (by omega)) hk
    · exact h.srt p q h1 h2 h3 e1 e2
end Go.Proofs.Ytehjmakiljhjdaa.HP
namespace Go.Proofs.Ytehjmakiljhjdaa.VW
open Go Go.RowKit
section
variable {P : Program} [hT : Tab P] {n : Nat} {ds : List Deferred} {Φ : Post} {k : List It} {ρ : E} {w : World} {all : Array Oper} {l : List Oper} {md : Option (List Oper)} {s : Nat} {F : World → Prop} {π : List (Nat × Nat)} {L : List Bool}
theorem x_J2 {fa fb : Int → Value} {i1 i2 d1 d2 t t' e : Nat} {o1 o2 : Oper} {x y : Operand} {v : Value} {i : Int} {os : List Int} {w0 wr : World} {c1 c2 : Bool}
    (h1 : all[i1]? = some o1 := by exact rfl) (ho : o1.op = .indexAddr t x y := by exact rfl) (hd1 : o1.dst = some d1 := by exact rfl) (hg1 : gdB all ρ o1.guard = some c1 := by exact rfl) (hc1 : c1 = true := by exact rfl)
    (h2 : all[i2]? = some o2 := by exact rfl) (ho2 : o2.op = .load t' (.tmp d1) := by exact rfl) (hd2 : o2.dst = some d2 := by exact rfl) (hg2 : ∀ p, gdB all ((d1, .pointer p) :: ρ) o2.guard = some c2 := by exact fun _ => rfl) (hc2 : c2 = true := by exact rfl)
    (ht : tyD P t = some (.slice e) := by exact rfl) (hs : tyS P e = some 2 := by exact rfl) (ha : tyAgg P t' = some true := by exact rfl) (hs2 : tyS P t' = some 2 := by exact rfl) (hx : ev ρ x = some v := by exact rfl) (hy : ev ρ y = some (.int .i64 i) := by exact rfl) (hO : OJ e fa fb w0 wr v os := by assumption) (hF : ∀ w, F w → Below wr.heap.size wr w := by first | exact fun _ h => h | (intro _ h; exact Below.via (by assumption) h)) (h0 : 0 ≤ i := by omega) (hi : i < os.length := by omega)
    (kk : ∀ p, OrdA P n ds all k Φ s F π ((L.set i1 true).set i2 true) ((d2, .agg #[fa (os.getD i.toNat 0), fb (os.getD i.toNat 0)]) :: (d1, p) :: ρ)) : OrdA P n ds all k Φ s F ((i1, 1) :: (i2, 2) :: π) L ρ :=
  OrdA.rdJ h1 ho hd1 hg1 hc1 h2 ho2 hd2 hg2 hc2 ht hs ha hs2 hx hy hO hF h0 hi kk
theorem x_J1 {fa fb : Int → Value} {i1 i2 d1 d2 t t' e : Nat} {o1 o2 : Oper} {x y : Operand} {v : Value} {i : Nat} {os : List Int} {w0 wr : World} {c1 c2 : Bool}
    (h1 : all[i1]? = some o1 := by exact rfl) (ho : o1.op = .indexAddr t x y := by exact rfl) (hd1 : o1.dst = some d1 := by exact rfl) (hg1 : gdB all ρ o1.guard = some c1 := by exact rfl) (hc1 : c1 = true := by exact rfl)
    (h2 : all[i2]? = some o2 := by exact rfl) (ho2 : o2.op = .load t' (.tmp d1) := by exact rfl) (hd2 : o2.dst = some d2 := by exact rfl) (hg2 : ∀ p, gdB all ((d1, .pointer p) :: ρ) o2.guard = some c2 := by exact fun _ => rfl) (hc2 : c2 = true := by exact rfl)
    (ht : tyD P t = some (.slice e) := by exact rfl) (hs : tyS P e = some 2 := by exact rfl) (ha : tyAgg P t' = some true := by exact rfl) (hs2 : tyS P t' = some 2 := by exact rfl) (hx : ev ρ x = some v := by exact rfl) (hy : ev ρ y = some (.int .i64 (i : Int)) := by exact rfl) (hO : OJ e fa fb w0 wr v os := by assumption) (hF : ∀ w, F w → Below wr.heap.size wr w := by first | exact fun _ h => h | (intro _ h; exact Below.via (by assumption) h)) (hi : i < os.length := by omega)
    (kk : ∀ p, OrdA P n ds all k Φ s F π ((L.set i1 true).set i2 true) ((d2, .agg #[fa (os.getD i 0), fb (os.getD i 0)]) :: (d1, p) :: ρ)) : OrdA P n ds all k Φ s F ((i1, 1) :: (i2, 2) :: π) L ρ :=
  OrdA.rdJ h1 ho hd1 hg1 hc1 h2 ho2 hd2 hg2 hc2 ht hs ha hs2 hx hy hO hF (by omega) (by omega) kk
end
end Go.Proofs.Ytehjmakiljhjdaa.VW
namespace Go.Proofs.Ytehjmakiljhjdaa
open Go Go.RowKit Go.Proofs.Ytehjmakiljhjdaa.VW
open Go.Proofs.Ytehjmakiljhjdaa.HP (SegP SortK InsI swp)
attribute [local irreducible] W Ops OrdA VW.Ord OrdX
def fA (z : Int) : Value := .int .i64 (z / 7)
def fB (z : Int) : Value := .int .i64 (z % 7)
abbrev el (z : Int) : Value := .agg #[fA z, fB z]
/-- A slice of the call's own, and what else stands. -/
structure OH (G : World → Prop) (wB w : World) (ov : Value) (os : List Int) : Prop where
  oi : OJ 37 fA fB wB w ov os
  g : G w
/-- It stands when the slice alone is written. -/
def Gst (G : World → Prop) (ov : Value) : Prop := ∀ w w', G w → Kp (fun k => ov.ownBlock = some k) w w' → G w'
theorem OH.sh {G : World → Prop} {wB w : World} {ov : Value} {os : List Int} (h : OH G wB w ov os) : ∃ A c, ov = .slice A os.length c := h.oi.sh
theorem OH.bel {G : World → Prop} {wB w : World} {ov : Value} {os : List Int} (h : OH G wB w ov os) : Below wB.heap.size wB w := h.oi.bel
theorem OH.below {G : World → Prop} {wB w w' : World} {ov : Value} {os : List Int} (h : OH G wB w ov os) (hs : Gst G ov) (k : Below w.heap.size w w') : OH G wB w' ov os := ⟨h.oi.below k, hs _ _ h.g (Kp.of_below k)⟩
theorem OH.wr {G : World → Prop} {wB w w4 w5 w6 : World} {ov : Value} {os os' : List Int} (h : OH G wB w ov os) (hs : Gst G ov) (hb : Below w.heap.size w w4) (k1 : Kp (fun b => ov.ownBlock = some b) w4 w5) (k2 : Kp (fun b => ov.ownBlock = some b) w5 w6) (hO : OJ 37 fA fB wB w6 ov os') : OH G wB w6 ov os' :=
  ⟨hO, hs _ _ (hs _ _ (hs _ _ h.g (Kp.of_below hb)) k1) k2⟩
/-- What the sort asks of the comparison: of two elements, the later one first. -/
structure Cmp (G : World → Prop) (wB : World) (fc : Nat) (first cap : List Value) (cv : Int → Int → Int) (K : Int → Int) (x y : Int) : Prop where
  call : ∀ w', Below wB.heap.size wB w' → G w' → Calls Try.prog fc (app3 first [el y, el x] cap).toArray w' (Ret fun v w'' => v = .int .i64 (cv y x) ∧ Below w'.heap.size w' w'')
  lt : cv y x < 0 ↔ K y < K x
  ne : K x ≠ K y
theorem callV_g {ρ : E} {c : Call} {g : Operand} {fc : Nat} {first cap vs : List Value} {vf : Value} (hvf : vf = .func (.func fc) first.toArray cap.toArray) (hc : c.callee = .value g) (hg : ev ρ g = some vf) (ha : evs ρ c.args.toList = some vs) : callV ρ c = some (fc, app3 first vs cap) := by
  subst hvf
  simp [callV, hc, hg, ha]
set_option maxHeartbeats 4000000 in
theorem insertion_c {G : World → Prop} {wB w : World} {ov vf : Value} {os0 : List Int} {a b fc : Nat} {first cap : List Value} {cv : Int → Int → Int} {K : Int → Int} (hO : OH G wB w ov os0) (hGs : Gst G ov) (hab : a ≤ b) (hb : b ≤ os0.length) (hl : os0.length ≤ 1000) (hvf : vf = .func (.func fc) first.toArray cap.toArray) (hfm : memB (Fns.L Try.prog) fc = true)
    (hcc : ∀ p q : Nat, a ≤ p → p < q → q < b → Cmp G wB fc first cap cv K (os0.getD p 0) (os0.getD q 0)) :
    Calls Try.prog 109 #[ov, .int .i64 a, .int .i64 b, vf] w (Ret fun r w' => ∃ os, OH G wB w' ov os ∧ SegP a b os0 os ∧ SortK K os a b) := by
  obtain ⟨A, c, rfl⟩ := hO.sh
  refine calls_W (vs := [_, _, _, _]) Try.func109 rfl (by kernel_rfl) rfl ?_
  (repeat (first | with_reducible refine W.seq ?_ | with_reducible refine Ops.nil ?_ | with_reducible refine W.region ?_ | refine z_p (kk := ?_) | refine z_a (kk := ?_) | with_reducible refine W.block ?_))
  refine W.loop (fun m ρ w1 => ∃ (i : Nat) (os : List Int), m = b - i ∧ a + 1 ≤ i ∧ ρ = [(0, .slice A os0.length c), (1, .int .i64 a), (2, .int .i64 b), (3, vf), (8, .int .i64 i)] ∧ OH G wB w1 (.slice A os0.length c) os ∧ SegP a (min i b) os0 os ∧ SortK K os a (min i b))
    ⟨_, _, ⟨a + 1, os0, rfl, Nat.le_refl _, by rw [show ((a + 1 : Nat) : Int) = (a : Int) + 1 by omega], hO, SegP.refl _ _ _, fun p q h1 h2 h3 => by omega⟩, (by repeat (first | exact trivial | refine And.intro rfl ?_))⟩ ?_
  clear hO
  rintro m ρ w1 ⟨i, os, rfl, hai, rfl, hO, hS, hK⟩
  (repeat (first | with_reducible refine W.seq ?_ | with_reducible refine Ops.nil ?_ | with_reducible refine W.region ?_ | refine z_p (kk := ?_)))
  (first | refine W.condD rfl (fun hc => ?_) (fun hc => ?_) | refine W.condE rfl (fun hc => ?_) (fun hc => ?_) | refine W.condN rfl (fun hc => ?_) (fun hc => ?_) | refine W.cond rfl (fun hc => ?_) (fun hc => ?_))
  · have hib : i < b := by omega
    rw [show min i b = i by omega] at hS hK
    have hI0 := InsI.start hS hK (by omega)
    (repeat (first | with_reducible refine W.seq ?_ | with_reducible refine Ops.nil ?_ | with_reducible refine W.region ?_ | refine z_p (kk := ?_) | with_reducible refine W.skip ?_ | with_reducible refine W.block ?_))
    refine W.loop (fun m ρ w2 => ∃ (j : Nat) (os : List Int), m = j ∧ ρ = [(0, .slice A os0.length c), (1, .int .i64 a), (2, .int .i64 b), (3, vf), (8, .int .i64 i), (9, .int .i64 j)] ∧ OH G wB w2 (.slice A os0.length c) os ∧ InsI K os0 a i j os)
      ⟨_, _, ⟨i, os, rfl, rfl, hO, hI0⟩, (by repeat (first | exact trivial | refine And.intro rfl ?_))⟩ ?_
    clear hO hI0 hS hK
    rintro m ρ w2 ⟨j, os, hm, rfl, hO, hI⟩
    subst m
    have hb2 := hO.bel
    have hol := hI.seg.len
    have hji := hI.ji
    have haj := hI.aj
    have hdone : (j = a ∨ ∃ m : Nat, j = m + 1 ∧ K (os.getD m 0) < K (os0.getD i 0)) → SegP a (min (i + 1) b) os0 os ∧ SortK K os a (min (i + 1) b) := fun hd => by
      rw [show min (i + 1) b = i + 1 by omega]
      exact ⟨hI.seg, hI.done hd⟩
    by_cases hj : a < j
    · obtain ⟨q, rfl⟩ : ∃ q, j = q + 1 := ⟨j - 1, by omega⟩
      have hsl : OJ 37 fA fB wB w2 (.slice A os0.length c) os := hO.oi
      (repeat (first | with_reducible refine W.seq ?_))
      refine W.ordA 99 [(0, 1), (1, 1), (2, 1), (3, 1), (4, 1), (5, 1), (6, 1), (7, 1), (8, 2), (9, 1), (10, 1), (11, 1), (12, 1), (13, 2), (14, 2), (15, 1), (16, 1)] rfl (by kernel_rfl) rfl (by kernel_rfl) (fun _ _ _ h => h) ?_
      (repeat (first | refine x_p (kk := ?_)))
      (try ((first | refine x_J1 (kk := fun _ => ?_) | refine x_J2 (kk := fun _ => ?_))))
      skip
      (try ((first | refine x_J1 (kk := fun _ => ?_) | refine x_J2 (kk := fun _ => ?_))))
      skip
      (first | refine x_t (kk := ?_) | refine x_f (kk := ?_))
      (repeat (first | refine x_p (kk := ?_)))
      (try ((first | refine x_J1 (kk := fun _ => ?_) | refine x_J2 (kk := fun _ => ?_))))
      (repeat (first | refine x_p (kk := ?_) | refine x_a (kk := ?_)))
      (try ((first | refine x_J1 (kk := fun _ => ?_) | refine x_J2 (kk := fun _ => ?_))))
      skip
      obtain ⟨r, r1, r2, r3⟩ := hI.old q (by omega) (by omega) (by omega)
      have hcm := hcc r i r1 r2 hib
      refine OrdA.call rfl rfl rfl rfl rfl (callV_g hvf rfl rfl rfl) hfm (v := .int .i64 (cv (os0.getD i 0) (os0.getD r 0))) (fun w' hw' => ?_) ?_
      · rw [hI.cur, show (((q + 1 : Nat) : Int) - 1).toNat = q by omega, r3]
        exact (hcm.call w' (Below.via hb2 hw') (hGs _ _ hO.g (Kp.of_below hw'))).mono fun e w'' ⟨v, he, hv, hb⟩ => ⟨v, he, hv, Below.via hw' hb⟩
      (repeat (first | refine x_p (kk := ?_)))
      (try ((first | refine x_J1 (kk := fun _ => ?_) | refine x_J2 (kk := fun _ => ?_))))
      skip
      (try ((first | refine x_J1 (kk := fun _ => ?_) | refine x_J2 (kk := fun _ => ?_))))
      skip
      refine OrdA.nil (fun w3 hb3 => ?_)
      have hO3 := hO.below hGs hb3
      clear hO hsl
      skip
      (first | refine W.condD rfl (fun hc => ?_) (fun hc => ?_) | refine W.condE rfl (fun hc => ?_) (fun hc => ?_) | refine W.condN rfl (fun hc => ?_) (fun hc => ?_) | refine W.cond rfl (fun hc => ?_) (fun hc => ?_))
      · have hlt : K (os0.getD i 0) < K (os.getD q 0) := by rw [r3]; exact hcm.lt.1 hc
        have hI' := hI.step (by omega) (by omega) hlt
        have hsl3 : OJ 37 fA fB wB w3 (.slice A os0.length c) os := hO3.oi
        (repeat (first | with_reducible refine W.seq ?_ | with_reducible refine W.skip ?_ | with_reducible refine W.block ?_))
        refine W.ordA 15 [(0, 1), (1, 1), (2, 1), (3, 1), (4, 1), (5, 1), (6, 1), (7, 1), (8, 1), (9, 2), (10, 1), (11, 1), (12, 1), (13, 2), (14, 1), (15, 0), (16, 1), (17, 0)] rfl (by kernel_rfl) rfl (by kernel_rfl) (fun _ _ _ h => h) ?_
        (repeat (first | refine x_p (kk := ?_) | refine x_a (kk := ?_)))
        (try ((first | refine x_J1 (kk := fun _ => ?_) | refine x_J2 (kk := fun _ => ?_))))
        (repeat (first | refine x_p (kk := ?_)))
        (try ((first | refine x_J1 (kk := fun _ => ?_) | refine x_J2 (kk := fun _ => ?_))))
        skip
        refine OrdA.wrJ (os := os) rfl rfl rfl rfl rfl rfl rfl rfl rfl rfl rfl rfl rfl rfl (fun _ => rfl) rfl rfl hO3.oi (fun _ h => h) (by omega) (by omega) (fun w4 w5 p hF4 hO5 hk5 hz5 => ?_)
        refine VW.Ord.wrJ (os := os.set ((q + 1 : Nat) : Int).toNat (os.getD (((q + 1 : Nat) : Int) - 1).toNat 0)) rfl rfl rfl rfl rfl rfl rfl rfl rfl rfl rfl rfl rfl rfl (fun _ => rfl) rfl rfl hO5 (by omega) (by rw [List.length_set]; omega) (fun _ _ _ h => h) (fun w6 p6 hO6 hk6 hz6 => ?_)
        refine VW.Ord.nil ?_
        replace hO6 := hO3.wr hGs hF4 hk5 hk6 hO6
        rw [show (((q + 1 : Nat) : Int) - 1).toNat = q by omega, show ((q + 1 : Nat) : Int).toNat = q + 1 by omega] at hO6
        have e1 : ((q + 1 : Nat) : Int) - 1 = (q : Int) := by omega
        (repeat (first | with_reducible refine Ops.nil ?_ | with_reducible refine W.region ?_ | refine z_p (kk := ?_) | refine z_a (kk := ?_) | with_reducible refine W.endb ?_))
        simp only [e1]
        exact W.endl ⟨_, _, ⟨⟨q, _, rfl, rfl, hO6, hI'⟩, by omega⟩, (by repeat (first | exact trivial | refine And.intro rfl ?_))⟩
      · have hlt : K (os.getD q 0) < K (os0.getD i 0) := by
          have h1 := hcm.lt
          have h2 := hcm.ne
          rw [r3]
          omega
        have hd := hdone (.inr ⟨q, rfl, hlt⟩)
        (repeat (first | with_reducible refine Ops.nil ?_ | with_reducible refine W.region ?_ | refine z_p (kk := ?_) | refine z_a (kk := ?_) | with_reducible refine W.endb ?_ | refine W.exit rfl ?_))
        exact W.endl ⟨_, _, ⟨⟨i + 1, _, rfl, by omega, rfl, hO3, hd.1, hd.2⟩, by omega⟩, (by repeat (first | exact trivial | refine And.intro rfl ?_))⟩
    · have hja : j = a := by omega
      have hd := hdone (.inl hja)
      (repeat (first | with_reducible refine W.seq ?_))
      refine W.ordA 99 [(0, 1), (1, 1), (2, 1), (3, 1), (4, 1), (5, 1), (6, 1), (7, 1), (8, 2), (9, 1), (10, 1), (11, 1), (12, 1), (13, 2), (14, 2), (15, 1), (16, 1)] rfl (by kernel_rfl) rfl (by kernel_rfl) (fun _ _ _ h => h) ?_
      (repeat (first | refine x_p (kk := ?_)))
      (try ((first | refine x_J1 (kk := fun _ => ?_) | refine x_J2 (kk := fun _ => ?_))))
      skip
      (try ((first | refine x_J1 (kk := fun _ => ?_) | refine x_J2 (kk := fun _ => ?_))))
      skip
      (first | refine x_t (kk := ?_) | refine x_f (kk := ?_))
      (repeat (first | refine x_p (kk := ?_) | refine x_n (kk := ?_)))
      (try ((first | refine x_J1 (kk := fun _ => ?_) | refine x_J2 (kk := fun _ => ?_))))
      skip
      (try ((first | refine x_J1 (kk := fun _ => ?_) | refine x_J2 (kk := fun _ => ?_))))
      skip
      refine OrdA.nil (fun w3 hb3 => ?_)
      have hO3 := hO.below hGs hb3
      clear hO
      skip
      refine W.condF rfl (by first | rfl | assumption | (simp only [bnf] <;> omega) | (simp only [*, bnf]; done) | fail) ?_
      (repeat (first | with_reducible refine Ops.nil ?_ | with_reducible refine W.region ?_ | refine z_p (kk := ?_) | refine z_a (kk := ?_) | with_reducible refine W.endb ?_ | refine W.exit rfl ?_))
      exact W.endl ⟨_, _, ⟨⟨i + 1, _, rfl, by omega, rfl, hO3, hd.1, hd.2⟩, by omega⟩, (by repeat (first | exact trivial | refine And.intro rfl ?_))⟩
  · have hib : b ≤ i := by omega
    rw [show min i b = b by omega] at hS hK
    (repeat (first | refine W.exit rfl ?_))
    exact W.fend rfl ⟨os, hO, hS, hK⟩
end Go.Proofs.Ytehjmakiljhjdaa
namespace Go.Proofs.Ytehjmakiljhjdaa
open Go Go.RowKit Go.Proofs.Ytehjmakiljhjdaa.VW
open Go.Proofs.Ytehjmakiljhjdaa.HP (SegP SortK swp SwR Rot rotT)
attribute [local irreducible] W Ops OrdA VW.Ord OrdX
set_option maxHeartbeats 4000000 in
theorem swapRange_c {G : World → Prop} {wB w : World} {ov vf : Value} {os0 : List Int} {a b n : Nat} (hO : OH G wB w ov os0) (hGs : Gst G ov) (hab : a + n ≤ b) (hb : b + n ≤ os0.length) (hl : os0.length ≤ 1000) :
    Calls Try.prog 131 #[ov, .int .i64 a, .int .i64 b, .int .i64 n, vf] w (Ret fun r w' => ∃ os, OH G wB w' ov os ∧ SwR a b n os0 os) := by
  obtain ⟨A, c, rfl⟩ := hO.sh
  refine calls_W (vs := [_, _, _, _, _]) Try.func131 rfl (by kernel_rfl) rfl ?_
  (repeat (first | with_reducible refine W.seq ?_ | with_reducible refine Ops.nil ?_ | with_reducible refine W.region ?_ | refine z_p (kk := ?_) | with_reducible refine W.block ?_))
  refine W.loop (fun m ρ w1 => ∃ (i : Nat) (os : List Int), m = n - i ∧ i ≤ n ∧ ρ = [(0, .slice A os0.length c), (1, .int .i64 a), (2, .int .i64 b), (3, .int .i64 n), (10, .int .i64 i)] ∧ OH G wB w1 (.slice A os0.length c) os ∧ SwR a b i os0 os)
    ⟨_, _, ⟨0, os0, rfl, Nat.zero_le _, rfl, hO, SwR.start a b os0⟩, (by repeat (first | exact trivial | refine And.intro rfl ?_))⟩ ?_
  clear hO
  rintro m ρ w1 ⟨i, os, rfl, hin, rfl, hO, hS⟩
  have hol : os.length = os0.length := (hS.seg a (b + i) (Nat.le_refl _) (Nat.le_refl _)).len
  (repeat (first | with_reducible refine W.seq ?_ | with_reducible refine Ops.nil ?_ | with_reducible refine W.region ?_ | refine z_p (kk := ?_)))
  (first | refine W.condD rfl (fun hc => ?_) (fun hc => ?_) | refine W.condE rfl (fun hc => ?_) (fun hc => ?_) | refine W.condN rfl (fun hc => ?_) (fun hc => ?_) | refine W.cond rfl (fun hc => ?_) (fun hc => ?_))
  · have hi : i < n := by omega
    have hsl : OJ 37 fA fB wB w1 (.slice A os0.length c) os := hO.oi
    have hS' := hS.step (by omega) (by omega)
    (repeat (first | with_reducible refine W.seq ?_ | with_reducible refine W.skip ?_ | with_reducible refine W.block ?_))
    refine W.ordA 21 [(0, 1), (1, 1), (2, 1), (3, 1), (4, 1), (5, 1), (6, 1), (7, 1), (8, 1), (9, 1), (10, 1), (11, 1), (12, 1), (13, 2), (14, 1), (15, 1), (16, 1), (17, 1), (18, 1), (19, 2), (20, 1), (21, 0), (22, 1), (23, 0)] rfl (by kernel_rfl) rfl (by kernel_rfl) (fun _ _ _ h => h) ?_
    (repeat (first | refine x_p (kk := ?_) | refine x_a (kk := ?_)))
    (try ((first | refine x_J1 (kk := fun _ => ?_) | refine x_J2 (kk := fun _ => ?_))))
    (repeat (first | refine x_p (kk := ?_) | refine x_a (kk := ?_)))
    (try ((first | refine x_J1 (kk := fun _ => ?_) | refine x_J2 (kk := fun _ => ?_))))
    skip
    refine OrdA.wrJ (os := os) rfl rfl rfl rfl rfl rfl rfl rfl rfl rfl rfl rfl rfl rfl (fun _ => rfl) rfl rfl hO.oi (fun _ h => h) (by omega) (by omega) (fun w4 w5 p hF4 hO5 hk5 hz5 => ?_)
    refine VW.Ord.wrJ (os := os.set ((a : Int) + i).toNat (os.getD ((b : Int) + i).toNat 0)) rfl rfl rfl rfl rfl rfl rfl rfl rfl rfl rfl rfl rfl rfl (fun _ => rfl) rfl rfl hO5 (by omega) (by rw [List.length_set]; omega) (fun _ _ _ h => h) (fun w6 p6 hO6 hk6 hz6 => ?_)
    refine VW.Ord.nil ?_
    replace hO6 := hO.wr hGs hF4 hk5 hk6 hO6
    rw [show ((a : Int) + i).toNat = a + i by omega, show ((b : Int) + i).toNat = b + i by omega] at hO6
    (repeat (first | with_reducible refine Ops.nil ?_ | with_reducible refine W.region ?_ | refine z_p (kk := ?_) | refine z_a (kk := ?_) | with_reducible refine W.endb ?_))
    exact W.endl ⟨_, _, ⟨⟨i + 1, _, rfl, by omega, rfl, hO6, hS'⟩, by omega⟩, (by repeat (first | exact trivial | refine And.intro rfl ?_))⟩
  · have hi : i = n := by omega
    subst hi
    (repeat (first | refine W.exit rfl ?_))
    exact W.fend rfl ⟨os, hO, hS⟩
set_option maxHeartbeats 4000000 in
theorem rotate_c {G : World → Prop} {wB w : World} {ov vf : Value} {os0 : List Int} {a m b : Nat} (hO : OH G wB w ov os0) (hGs : Gst G ov) (ham : a < m) (hmb : m < b) (hb : b ≤ os0.length) (hl : os0.length ≤ 1000) :
    Calls Try.prog 126 #[ov, .int .i64 a, .int .i64 m, .int .i64 b, vf] w (Ret fun r w' => ∃ os, OH G wB w' ov os ∧ SegP a b os0 os ∧ ∀ x : Nat, a ≤ x → x < b → os.getD x 0 = rotT os0 a m b x) := by
  obtain ⟨A, c, rfl⟩ := hO.sh
  refine calls_W (vs := [_, _, _, _, _]) Try.func126 rfl (by kernel_rfl) rfl ?_
  (repeat (first | with_reducible refine W.seq ?_ | with_reducible refine Ops.nil ?_ | with_reducible refine W.region ?_ | refine z_p (kk := ?_) | refine z_a (kk := ?_) | with_reducible refine W.block ?_))
  refine W.loop (fun z ρ w1 => ∃ (i j : Nat) (os : List Int), z = i + j ∧ 0 < i ∧ 0 < j ∧ ρ = [(0, .slice A os0.length c), (2, .int .i64 m), (4, vf), (10, .int .i64 i), (11, .int .i64 j)] ∧ OH G wB w1 (.slice A os0.length c) os ∧ Rot (rotT os0 a m b) a m b i j os0 os)
    ⟨_, _, ⟨m - a, b - m, os0, rfl, by omega, by omega, by rw [show ((m - a : Nat) : Int) = (m : Int) - a by omega, show ((b - m : Nat) : Int) = (b : Int) - m by omega], hO, Rot.start os0 (by omega) (by omega)⟩, (by repeat (first | exact trivial | refine And.intro rfl ?_))⟩ ?_
  clear hO
  rintro z ρ w1 ⟨i, j, os, rfl, hi, hj, rfl, hO, hR⟩
  have hol : os.length = os0.length := hR.seg.len
  have ia := hR.ia
  have jb := hR.jb
  have e1 : (m : Int) - i = ((m - i : Nat) : Int) := by omega
  (repeat (first | with_reducible refine W.seq ?_ | with_reducible refine Ops.nil ?_ | with_reducible refine W.region ?_ | refine z_p (kk := ?_)))
  (first | refine W.condD rfl (fun hc => ?_) (fun hc => ?_) | refine W.condE rfl (fun hc => ?_) (fun hc => ?_) | refine W.condN rfl (fun hc => ?_) (fun hc => ?_) | refine W.cond rfl (fun hc => ?_) (fun hc => ?_))
  · have hij : i ≠ j := by omega
    (repeat (first | with_reducible refine W.seq ?_ | with_reducible refine Ops.nil ?_ | with_reducible refine W.region ?_ | refine z_p (kk := ?_) | with_reducible refine W.skip ?_ | with_reducible refine W.block ?_))
    (first | refine W.condD rfl (fun hc => ?_) (fun hc => ?_) | refine W.condE rfl (fun hc => ?_) (fun hc => ?_) | refine W.condN rfl (fun hc => ?_) (fun hc => ?_) | refine W.cond rfl (fun hc => ?_) (fun hc => ?_))
    · have hlt : j < i := by omega
      have hcl := swapRange_c (vf := vf) (a := m - i) (b := m) (n := j) hO hGs (by omega) (by omega) (by omega)
      rw [← e1] at hcl
      (repeat (first | with_reducible refine W.seq ?_ | with_reducible refine W.region ?_ | refine z_p (kk := ?_) | refine z_a (kk := ?_)))
      refine Ops.call rfl rfl rfl rfl rfl hcl (fun v w2 hR2 => ?_)
      obtain ⟨os2, hO2, hS2⟩ := hR2
      have hR' := hR.left hlt hS2
      (repeat (first | with_reducible refine Ops.nil ?_ | with_reducible refine W.region ?_ | refine z_p (kk := ?_) | refine z_a (kk := ?_) | with_reducible refine W.endb ?_))
      exact W.endl ⟨_, _, ⟨⟨i - j, j, os2, rfl, by omega, hj, by rw [show ((i - j : Nat) : Int) = (i : Int) - j by omega], hO2, hR'⟩, by omega⟩, (by repeat (first | exact trivial | refine And.intro rfl ?_))⟩
    · have hlt : i < j := by omega
      have hcl := swapRange_c (vf := vf) (a := m - i) (b := m + j - i) (n := i) hO hGs (by omega) (by omega) (by omega)
      rw [← e1, show ((m + j - i : Nat) : Int) = (m : Int) + j - i by omega] at hcl
      (repeat (first | with_reducible refine W.seq ?_ | with_reducible refine W.region ?_ | refine z_p (kk := ?_) | refine z_a (kk := ?_)))
      refine Ops.call rfl rfl rfl rfl rfl hcl (fun v w2 hR2 => ?_)
      obtain ⟨os2, hO2, hS2⟩ := hR2
      have hR' := hR.right hlt hS2
      (repeat (first | with_reducible refine Ops.nil ?_ | with_reducible refine W.region ?_ | refine z_p (kk := ?_) | refine z_a (kk := ?_) | with_reducible refine W.endb ?_))
      exact W.endl ⟨_, _, ⟨⟨i, j - i, os2, rfl, hi, by omega, by rw [show ((j - i : Nat) : Int) = (j : Int) - i by omega], hO2, hR'⟩, by omega⟩, (by repeat (first | exact trivial | refine And.intro rfl ?_))⟩
  · have hij : i = j := by omega
    subst hij
    have hcl := swapRange_c (vf := vf) (a := m - i) (b := m) (n := i) hO hGs (by omega) (by omega) (by omega)
    rw [← e1] at hcl
    (repeat (first | with_reducible refine W.region ?_ | refine z_p (kk := ?_) | refine z_a (kk := ?_) | refine W.exit rfl ?_))
    refine Ops.call rfl rfl rfl rfl rfl hcl (fun v w2 hR2 => ?_)
    obtain ⟨os2, hO2, hS2⟩ := hR2
    have hR' := hR.done hS2
    (repeat (first | with_reducible refine Ops.nil ?_))
    exact W.fend rfl ⟨os2, hO2, hR'⟩
end Go.Proofs.Ytehjmakiljhjdaa
namespace Go.Proofs.Ytehjmakiljhjdaa
open Go Go.RowKit Go.Proofs.Ytehjmakiljhjdaa.VW
open Go.Proofs.Ytehjmakiljhjdaa.HP (SegP SortK swp SwR Rot rotT LoS HiS MvU MvD)
attribute [local irreducible] W Ops OrdA VW.Ord OrdX
set_option maxHeartbeats 4000000 in
theorem sym1_c {G : World → Prop} {wB w : World} {ov vf : Value} {os0 : List Int} {a b fc : Nat} {first cap : List Value} {cv : Int → Int → Int} {K : Int → Int} (hO : OH G wB w ov os0) (hGs : Gst G ov) (hab : a + 1 < b) (hb : b ≤ os0.length) (hl : os0.length ≤ 1000) (hvf : vf = .func (.func fc) first.toArray cap.toArray) (hfm : memB (Fns.L Try.prog) fc = true)
    (hcc : ∀ p q : Nat, a ≤ p → p < a + 1 → a + 1 ≤ q → q < b → Cmp G wB fc first cap cv K (os0.getD p 0) (os0.getD q 0)) (hs : SortK K os0 (a + 1) b) :
    Calls Try.prog 110 #[ov, .int .i64 a, .int .i64 ((a + 1 : Nat) : Int), .int .i64 b, vf] w (Ret fun r w' => ∃ os, OH G wB w' ov os ∧ SegP a b os0 os ∧ SortK K os a b) := by
  obtain ⟨A, c, rfl⟩ := hO.sh
  refine calls_W (vs := [_, _, _, _, _]) Try.func110 rfl (by kernel_rfl) rfl ?_
  (repeat (first | with_reducible refine W.seq ?_ | with_reducible refine Ops.nil ?_ | with_reducible refine W.region ?_ | refine z_p (kk := ?_) | refine z_a (kk := ?_)))
  refine W.condT rfl (by first | rfl | assumption | (simp only [bnf] <;> omega) | (simp only [*, bnf]; done) | fail) ?_
  (repeat (first | with_reducible refine W.seq ?_ | with_reducible refine Ops.nil ?_ | with_reducible refine W.region ?_ | refine z_p (kk := ?_) | with_reducible refine W.block ?_))
  refine W.loop (fun z ρ w1 => ∃ (i j : Nat), z = j - i ∧ ρ = [(0, .slice A os0.length c), (1, .int .i64 a), (4, vf), (10, .int .i64 i), (11, .int .i64 j)] ∧ OH G wB w1 (.slice A os0.length c) os0 ∧ LoS K os0 a (a + 1) b i j)
    ⟨_, _, ⟨a + 1, b, rfl, rfl, hO, ⟨by omega, by omega, by omega, fun x h1 h2 => by omega, fun x h1 h2 => by omega⟩⟩, (by repeat (first | exact trivial | refine And.intro rfl ?_))⟩ ?_
  clear hO
  rintro z ρ w1 ⟨i, j, rfl, rfl, hO, hL⟩
  have := hL.mi; have := hL.ij; have := hL.jb
  (repeat (first | with_reducible refine W.seq ?_ | with_reducible refine Ops.nil ?_ | with_reducible refine W.region ?_ | refine z_p (kk := ?_)))
  (first | refine W.condD rfl (fun hc => ?_) (fun hc => ?_) | refine W.condE rfl (fun hc => ?_) (fun hc => ?_) | refine W.condN rfl (fun hc => ?_) (fun hc => ?_) | refine W.cond rfl (fun hc => ?_) (fun hc => ?_))
  · have hij : i < j := by omega
    have hsl : OJ 37 fA fB wB w1 (.slice A os0.length c) os0 := hO.oi
    have hb2 := hO.bel
    have hcm := hcc a ((i + j) / 2) (by omega) (by omega) (by omega) (by omega)
    have hu := fun hk => hL.up hs (show i ≤ (i + j) / 2 by omega) (by omega) hk
    have hd := fun hk => hL.down hs (show i ≤ (i + j) / 2 by omega) (by omega) hk
    (repeat (first | with_reducible refine W.seq ?_ | with_reducible refine W.region ?_ | refine z_p (kk := ?_) | refine z_a (kk := ?_) | with_reducible refine W.skip ?_ | with_reducible refine W.block ?_))
    refine Ops.half (s := i + j) rfl rfl rfl rfl rfl rfl rfl rfl rfl rfl rfl rfl rfl rfl rfl (by omega) ?_
    have h1 : i ≤ (i + j) / 2 := by omega
    have h2 : (i + j) / 2 < j := by omega
    generalize (i + j) / 2 = h at *
    (repeat (first | with_reducible refine W.seq ?_ | with_reducible refine Ops.nil ?_ | refine z_p (kk := ?_)))
    refine W.ordA 99 [(0, 1), (1, 1), (2, 1), (3, 1), (4, 2), (5, 1), (6, 1), (7, 1), (8, 2), (9, 2), (10, 1)] rfl (by kernel_rfl) rfl (by kernel_rfl) (fun _ _ _ h => h) ?_
    (repeat (first | refine x_p (kk := ?_)))
    (try ((first | refine x_J1 (kk := fun _ => ?_) | refine x_J2 (kk := fun _ => ?_))))
    (repeat (first | refine x_p (kk := ?_)))
    (try ((first | refine x_J1 (kk := fun _ => ?_) | refine x_J2 (kk := fun _ => ?_))))
    skip
    refine OrdA.call rfl rfl rfl rfl rfl (callV_g hvf rfl rfl rfl) hfm (v := .int .i64 (cv (os0.getD h 0) (os0.getD a 0))) (fun w' hw' => (hcm.call w' (Below.via hb2 hw') (hGs _ _ hO.g (Kp.of_below hw'))).mono fun e w'' ⟨v, he, hv, hb⟩ => ⟨v, he, hv, Below.via hw' hb⟩) ?_
    (repeat (first | refine x_p (kk := ?_)))
    (try ((first | refine x_J1 (kk := fun _ => ?_) | refine x_J2 (kk := fun _ => ?_))))
    skip
    (try ((first | refine x_J1 (kk := fun _ => ?_) | refine x_J2 (kk := fun _ => ?_))))
    skip
    refine OrdA.nil (fun w3 hb3 => ?_)
    have hO3 := hO.below hGs hb3
    clear hO hsl
    skip
    (first | refine W.condD rfl (fun hc => ?_) (fun hc => ?_) | refine W.condE rfl (fun hc => ?_) (fun hc => ?_) | refine W.condN rfl (fun hc => ?_) (fun hc => ?_) | refine W.cond rfl (fun hc => ?_) (fun hc => ?_))
    · have hL' := hu (hcm.lt.1 hc)
      (repeat (first | with_reducible refine Ops.nil ?_ | with_reducible refine W.region ?_ | refine z_p (kk := ?_) | refine z_a (kk := ?_) | with_reducible refine W.endb ?_))
      exact W.endl ⟨_, _, ⟨⟨h + 1, j, rfl, rfl, hO3, hL'⟩, by omega⟩, (by repeat (first | exact trivial | refine And.intro rfl ?_))⟩
    · have hL' := hd (by
        have h1 := hcm.lt
        have h2 := hcm.ne
        omega)
      (repeat (first | with_reducible refine Ops.nil ?_ | with_reducible refine W.region ?_ | refine z_p (kk := ?_) | with_reducible refine W.endb ?_))
      exact W.endl ⟨_, _, ⟨⟨i, h, rfl, rfl, hO3, hL'⟩, by omega⟩, (by repeat (first | exact trivial | refine And.intro rfl ?_))⟩
  · have hij : i = j := by omega
    subst hij
    (repeat (first | with_reducible refine W.seq ?_ | with_reducible refine Ops.nil ?_ | with_reducible refine W.region ?_ | refine z_p (kk := ?_) | with_reducible refine W.block ?_ | refine W.exit rfl ?_))
    clear hcc
    have hz : ∃ z : Nat, i = z + 1 := ⟨i - 1, by omega⟩
    obtain ⟨e, rfl⟩ := hz
    refine W.loop (fun z ρ w1 => ∃ (k : Nat) (os : List Int), z = e - k ∧ k ≤ e ∧ ρ = [(0, .slice A os0.length c), (10, .int .i64 ((e + 1 : Nat) : Int)), (13, .int .i64 k)] ∧ OH G wB w1 (.slice A os0.length c) os ∧ MvU a k os0 os)
      ⟨_, _, ⟨a, os0, rfl, by omega, rfl, hO, MvU.start a os0⟩, (by repeat (first | exact trivial | refine And.intro rfl ?_))⟩ ?_
    clear hO
    rintro z ρ w1 ⟨k, os, rfl, hke, rfl, hO, hM⟩
    have hol := hM.seg.len
    have hak := hM.ak
    have e1 : ((e + 1 : Nat) : Int) - 1 = (e : Int) := by omega
    have hb2 := hO.bel
    (repeat (first | with_reducible refine W.seq ?_ | with_reducible refine Ops.nil ?_ | with_reducible refine W.region ?_ | refine z_p (kk := ?_) | refine z_a (kk := ?_)))
    simp only [e1]
    skip
    (first | refine W.condD rfl (fun hc => ?_) (fun hc => ?_) | refine W.condE rfl (fun hc => ?_) (fun hc => ?_) | refine W.condN rfl (fun hc => ?_) (fun hc => ?_) | refine W.cond rfl (fun hc => ?_) (fun hc => ?_))
    · have hk : k < e := by omega
      have hsl : OJ 37 fA fB wB w1 (.slice A os0.length c) os := hO.oi
      have hM' := hM.step (by omega)
      (repeat (first | with_reducible refine W.seq ?_ | with_reducible refine W.skip ?_ | with_reducible refine W.block ?_))
      refine W.ordA 15 [(0, 1), (1, 1), (2, 1), (3, 1), (4, 1), (5, 1), (6, 1), (7, 1), (8, 1), (9, 2), (10, 1), (11, 1), (12, 1), (13, 2), (14, 1), (15, 0), (16, 1), (17, 0)] rfl (by kernel_rfl) rfl (by kernel_rfl) (fun _ _ _ h => h) ?_
      (repeat (first | refine x_p (kk := ?_) | refine x_a (kk := ?_)))
      (try ((first | refine x_J1 (kk := fun _ => ?_) | refine x_J2 (kk := fun _ => ?_))))
      (repeat (first | refine x_p (kk := ?_)))
      (try ((first | refine x_J1 (kk := fun _ => ?_) | refine x_J2 (kk := fun _ => ?_))))
      skip
      refine OrdA.wrJ (os := os) rfl rfl rfl rfl rfl rfl rfl rfl rfl rfl rfl rfl rfl rfl (fun _ => rfl) rfl rfl hO.oi (fun _ h => h) (by omega) (by omega) (fun w4 w5 p hF4 hO5 hk5 hz5 => ?_)
      refine VW.Ord.wrJ (os := os.set (k : Int).toNat (os.getD ((k : Int) + 1).toNat 0)) rfl rfl rfl rfl rfl rfl rfl rfl rfl rfl rfl rfl rfl rfl (fun _ => rfl) rfl rfl hO5 (by omega) (by rw [List.length_set]; omega) (fun _ _ _ h => h) (fun w6 p6 hO6 hk6 hz6 => ?_)
      refine VW.Ord.nil ?_
      replace hO6 := hO.wr hGs hF4 hk5 hk6 hO6
      rw [show ((k : Int) + 1).toNat = k + 1 by omega, show (k : Int).toNat = k by omega] at hO6
      (repeat (first | with_reducible refine Ops.nil ?_ | with_reducible refine W.region ?_ | refine z_p (kk := ?_) | refine z_a (kk := ?_) | with_reducible refine W.endb ?_))
      exact W.endl ⟨_, _, ⟨⟨k + 1, _, rfl, by omega, rfl, hO6, hM'⟩, by omega⟩, (by repeat (first | exact trivial | refine And.intro rfl ?_))⟩
    · have hk : k = e := by omega
      subst hk
      have hD := hL.done rfl hs hM
      (repeat (first | refine W.exit rfl ?_))
      refine W.fret rfl ⟨os, hO, hD⟩
end Go.Proofs.Ytehjmakiljhjdaa
namespace Go.Proofs.Ytehjmakiljhjdaa
open Go Go.RowKit Go.Proofs.Ytehjmakiljhjdaa.VW
open Go.Proofs.Ytehjmakiljhjdaa.HP (SegP SortK swp SwR Rot rotT LoS HiS MvU MvD MiS Cut)
attribute [local irreducible] W Ops OrdA VW.Ord OrdX
set_option maxHeartbeats 4000000 in
theorem sym2_c {G : World → Prop} {wB w : World} {ov vf : Value} {os0 : List Int} {a m fc : Nat} {first cap : List Value} {cv : Int → Int → Int} {K : Int → Int} (hO : OH G wB w ov os0) (hGs : Gst G ov) (ham : a + 1 < m) (hb : m + 1 ≤ os0.length) (hl : os0.length ≤ 1000) (hvf : vf = .func (.func fc) first.toArray cap.toArray) (hfm : memB (Fns.L Try.prog) fc = true)
    (hcc : ∀ p q : Nat, a ≤ p → p < m → m ≤ q → q < m + 1 → Cmp G wB fc first cap cv K (os0.getD p 0) (os0.getD q 0)) (hs : SortK K os0 a m) :
    Calls Try.prog 110 #[ov, .int .i64 a, .int .i64 m, .int .i64 ((m + 1 : Nat) : Int), vf] w (Ret fun r w' => ∃ os, OH G wB w' ov os ∧ SegP a (m + 1) os0 os ∧ SortK K os a (m + 1)) := by
  obtain ⟨A, c, rfl⟩ := hO.sh
  refine calls_W (vs := [_, _, _, _, _]) Try.func110 rfl (by kernel_rfl) rfl ?_
  (repeat (first | with_reducible refine W.seq ?_ | with_reducible refine Ops.nil ?_ | with_reducible refine W.region ?_ | refine z_p (kk := ?_) | refine z_a (kk := ?_)))
  refine W.condF rfl (by first | rfl | assumption | (simp only [bnf] <;> omega) | (simp only [*, bnf]; done) | fail) ?_
  (repeat (first | with_reducible refine W.seq ?_ | with_reducible refine Ops.nil ?_ | with_reducible refine W.region ?_ | refine z_p (kk := ?_) | refine z_a (kk := ?_) | with_reducible refine W.skip ?_))
  refine W.condT rfl (by first | rfl | assumption | (simp only [bnf] <;> omega) | (simp only [*, bnf]; done) | fail) ?_
  (repeat (first | with_reducible refine W.seq ?_ | with_reducible refine Ops.nil ?_ | with_reducible refine W.region ?_ | refine z_p (kk := ?_) | with_reducible refine W.block ?_))
  refine W.loop (fun z ρ w1 => ∃ (i j : Nat), z = j - i ∧ ρ = [(0, .slice A os0.length c), (2, .int .i64 m), (4, vf), (14, .int .i64 i), (15, .int .i64 j)] ∧ OH G wB w1 (.slice A os0.length c) os0 ∧ HiS K os0 a m i j)
    ⟨_, _, ⟨a, m, rfl, rfl, hO, ⟨by omega, by omega, by omega, fun x h1 h2 => by omega, fun x h1 h2 => by omega⟩⟩, (by repeat (first | exact trivial | refine And.intro rfl ?_))⟩ ?_
  clear hO
  rintro z ρ w1 ⟨i, j, rfl, rfl, hO, hL⟩
  have := hL.ai; have := hL.ij; have := hL.jm
  (repeat (first | with_reducible refine W.seq ?_ | with_reducible refine Ops.nil ?_ | with_reducible refine W.region ?_ | refine z_p (kk := ?_)))
  (first | refine W.condD rfl (fun hc => ?_) (fun hc => ?_) | refine W.condE rfl (fun hc => ?_) (fun hc => ?_) | refine W.condN rfl (fun hc => ?_) (fun hc => ?_) | refine W.cond rfl (fun hc => ?_) (fun hc => ?_))
  · have hij : i < j := by omega
    have hsl : OJ 37 fA fB wB w1 (.slice A os0.length c) os0 := hO.oi
    have hb2 := hO.bel
    have hcm := hcc ((i + j) / 2) m (by omega) (by omega) (by omega) (by omega)
    have hu := fun hk => hL.up hs (show i ≤ (i + j) / 2 by omega) (by omega) hk
    have hd := fun hk => hL.down hs (show i ≤ (i + j) / 2 by omega) (by omega) hk
    (repeat (first | with_reducible refine W.seq ?_ | with_reducible refine W.region ?_ | refine z_p (kk := ?_) | refine z_a (kk := ?_) | with_reducible refine W.skip ?_ | with_reducible refine W.block ?_))
    refine Ops.half (s := i + j) rfl rfl rfl rfl rfl rfl rfl rfl rfl rfl rfl rfl rfl rfl rfl (by omega) ?_
    have h1 : i ≤ (i + j) / 2 := by omega
    have h2 : (i + j) / 2 < j := by omega
    generalize (i + j) / 2 = h at *
    (repeat (first | with_reducible refine W.seq ?_ | with_reducible refine Ops.nil ?_ | refine z_p (kk := ?_)))
    refine W.ordA 99 [(0, 1), (1, 1), (2, 1), (3, 1), (4, 2), (5, 1), (6, 1), (7, 1), (8, 2), (9, 2), (10, 1), (11, 1)] rfl (by kernel_rfl) rfl (by kernel_rfl) (fun _ _ _ h => h) ?_
    (repeat (first | refine x_p (kk := ?_)))
    (try ((first | refine x_J1 (kk := fun _ => ?_) | refine x_J2 (kk := fun _ => ?_))))
    (repeat (first | refine x_p (kk := ?_)))
    (try ((first | refine x_J1 (kk := fun _ => ?_) | refine x_J2 (kk := fun _ => ?_))))
    skip
    refine OrdA.call rfl rfl rfl rfl rfl (callV_g hvf rfl rfl rfl) hfm (v := .int .i64 (cv (os0.getD m 0) (os0.getD h 0))) (fun w' hw' => (hcm.call w' (Below.via hb2 hw') (hGs _ _ hO.g (Kp.of_below hw'))).mono fun e w'' ⟨v, he, hv, hb⟩ => ⟨v, he, hv, Below.via hw' hb⟩) ?_
    (repeat (first | refine x_p (kk := ?_)))
    (try ((first | refine x_J1 (kk := fun _ => ?_) | refine x_J2 (kk := fun _ => ?_))))
    skip
    (try ((first | refine x_J1 (kk := fun _ => ?_) | refine x_J2 (kk := fun _ => ?_))))
    skip
    refine OrdA.nil (fun w3 hb3 => ?_)
    have hO3 := hO.below hGs hb3
    clear hO hsl
    by_cases hx : cv (os0.getD m 0) (os0.getD h 0) < 0
    · have hL' := hd (hcm.lt.1 hx)
      skip
      refine W.condF rfl (by first | rfl | assumption | (simp only [bnf] <;> omega) | (simp only [*, bnf]; done) | fail) ?_
      (repeat (first | with_reducible refine Ops.nil ?_ | with_reducible refine W.region ?_ | refine z_p (kk := ?_) | with_reducible refine W.endb ?_))
      exact W.endl ⟨_, _, ⟨⟨i, h, rfl, rfl, hO3, hL'⟩, by omega⟩, (by repeat (first | exact trivial | refine And.intro rfl ?_))⟩
    · have hL' := hu (by
        have h1 := hcm.lt
        have h2 := hcm.ne
        omega)
      skip
      refine W.condT rfl (by first | rfl | assumption | (simp only [bnf] <;> omega) | (simp only [*, bnf]; done) | fail) ?_
      (repeat (first | with_reducible refine Ops.nil ?_ | with_reducible refine W.region ?_ | refine z_p (kk := ?_) | refine z_a (kk := ?_) | with_reducible refine W.endb ?_))
      exact W.endl ⟨_, _, ⟨⟨h + 1, j, rfl, rfl, hO3, hL'⟩, by omega⟩, (by repeat (first | exact trivial | refine And.intro rfl ?_))⟩
  · have hij : i = j := by omega
    subst hij
    (repeat (first | with_reducible refine W.seq ?_ | with_reducible refine Ops.nil ?_ | with_reducible refine W.region ?_ | refine z_p (kk := ?_) | with_reducible refine W.block ?_ | refine W.exit rfl ?_))
    clear hcc
    refine W.loop (fun z ρ w1 => ∃ (k : Nat) (os : List Int), z = k - i ∧ i ≤ k ∧ ρ = [(0, .slice A os0.length c), (14, .int .i64 i), (17, .int .i64 k)] ∧ OH G wB w1 (.slice A os0.length c) os ∧ MvD m k os0 os)
      ⟨_, _, ⟨m, os0, rfl, by omega, rfl, hO, MvD.start m os0⟩, (by repeat (first | exact trivial | refine And.intro rfl ?_))⟩ ?_
    clear hO
    rintro z ρ w1 ⟨k, os, rfl, hke, rfl, hO, hM⟩
    have hol := hM.seg.len
    have hkm := hM.km
    have hb2 := hO.bel
    (repeat (first | with_reducible refine W.seq ?_ | with_reducible refine Ops.nil ?_ | with_reducible refine W.region ?_ | refine z_p (kk := ?_)))
    (first | refine W.condD rfl (fun hc => ?_) (fun hc => ?_) | refine W.condE rfl (fun hc => ?_) (fun hc => ?_) | refine W.condN rfl (fun hc => ?_) (fun hc => ?_) | refine W.cond rfl (fun hc => ?_) (fun hc => ?_))
    · have hk : i < k := by omega
      obtain ⟨q, rfl⟩ : ∃ q, k = q + 1 := ⟨k - 1, by omega⟩
      have hsl : OJ 37 fA fB wB w1 (.slice A os0.length c) os := hO.oi
      have hM' := hM.step (by omega)
      (repeat (first | with_reducible refine W.seq ?_ | with_reducible refine W.skip ?_ | with_reducible refine W.block ?_))
      refine W.ordA 15 [(0, 1), (1, 1), (2, 1), (3, 1), (4, 1), (5, 1), (6, 1), (7, 1), (8, 1), (9, 2), (10, 1), (11, 1), (12, 1), (13, 2), (14, 1), (15, 0), (16, 1), (17, 0)] rfl (by kernel_rfl) rfl (by kernel_rfl) (fun _ _ _ h => h) ?_
      (repeat (first | refine x_p (kk := ?_) | refine x_a (kk := ?_)))
      (try ((first | refine x_J1 (kk := fun _ => ?_) | refine x_J2 (kk := fun _ => ?_))))
      (repeat (first | refine x_p (kk := ?_)))
      (try ((first | refine x_J1 (kk := fun _ => ?_) | refine x_J2 (kk := fun _ => ?_))))
      skip
      refine OrdA.wrJ (os := os) rfl rfl rfl rfl rfl rfl rfl rfl rfl rfl rfl rfl rfl rfl (fun _ => rfl) rfl rfl hO.oi (fun _ h => h) (by omega) (by omega) (fun w4 w5 p hF4 hO5 hk5 hz5 => ?_)
      refine VW.Ord.wrJ (os := os.set ((q + 1 : Nat) : Int).toNat (os.getD (((q + 1 : Nat) : Int) - 1).toNat 0)) rfl rfl rfl rfl rfl rfl rfl rfl rfl rfl rfl rfl rfl rfl (fun _ => rfl) rfl rfl hO5 (by omega) (by rw [List.length_set]; omega) (fun _ _ _ h => h) (fun w6 p6 hO6 hk6 hz6 => ?_)
      refine VW.Ord.nil ?_
      replace hO6 := hO.wr hGs hF4 hk5 hk6 hO6
      rw [show (((q + 1 : Nat) : Int) - 1).toNat = q by omega, show ((q + 1 : Nat) : Int).toNat = q + 1 by omega] at hO6
      have e1 : ((q + 1 : Nat) : Int) - 1 = (q : Int) := by omega
      (repeat (first | with_reducible refine Ops.nil ?_ | with_reducible refine W.region ?_ | refine z_p (kk := ?_) | refine z_a (kk := ?_) | with_reducible refine W.endb ?_))
      simp only [e1]
      exact W.endl ⟨_, _, ⟨⟨q, _, rfl, by omega, rfl, hO6, hM'⟩, by omega⟩, (by repeat (first | exact trivial | refine And.intro rfl ?_))⟩
    · have hk : k = i := by omega
      subst hk
      have hD := hL.done hs hM
      (repeat (first | refine W.exit rfl ?_))
      refine W.fret rfl ⟨os, hO, hD⟩
end Go.Proofs.Ytehjmakiljhjdaa
namespace Go.Proofs.Ytehjmakiljhjdaa
open Go Go.RowKit Go.Proofs.Ytehjmakiljhjdaa.VW
open Go.Proofs.Ytehjmakiljhjdaa.HP (SegP SortK swp SwR Rot rotT LoS HiS MvU MvD MiS Cut)
attribute [local irreducible] W Ops OrdA VW.Ord OrdX
/-- What merging both parts shows. -/
def SymC (G : World → Prop) (wB : World) (vf : Value) (fc : Nat) (first cap : List Value) (cv : Int → Int → Int) (K : Int → Int) (N : Nat) : Prop := ∀ {w : World} {ov : Value} {os0 : List Int} {a m b : Nat}, b - a < N → OH G wB w ov os0 → Gst G ov → a < m → m < b → b ≤ os0.length → os0.length ≤ 1000 →
    (∀ p q : Nat, a ≤ p → p < m → m ≤ q → q < b → Cmp G wB fc first cap cv K (os0.getD p 0) (os0.getD q 0)) → SortK K os0 a m → SortK K os0 m b →
    Calls Try.prog 110 #[ov, .int .i64 a, .int .i64 m, .int .i64 b, vf] w (Ret fun r w' => ∃ os, OH G wB w' ov os ∧ SegP a b os0 os ∧ SortK K os a b)
set_option maxHeartbeats 8000000 in
theorem sym3_c {G : World → Prop} {wB w : World} {ov vf : Value} {os0 : List Int} {a m b fc N : Nat} {first cap : List Value} {cv : Int → Int → Int} {K : Int → Int} (ih : SymC G wB vf fc first cap cv K N) (hN : b - a < N + 1) (hO : OH G wB w ov os0) (hGs : Gst G ov) (ham : a + 1 < m) (hmb : m + 1 < b) (hb : b ≤ os0.length) (hl : os0.length ≤ 1000) (hvf : vf = .func (.func fc) first.toArray cap.toArray) (hfm : memB (Fns.L Try.prog) fc = true)
    (hcc : ∀ p q : Nat, a ≤ p → p < m → m ≤ q → q < b → Cmp G wB fc first cap cv K (os0.getD p 0) (os0.getD q 0)) (hs1 : SortK K os0 a m) (hs2 : SortK K os0 m b) :
    Calls Try.prog 110 #[ov, .int .i64 a, .int .i64 m, .int .i64 b, vf] w (Ret fun r w' => ∃ os, OH G wB w' ov os ∧ SegP a b os0 os ∧ SortK K os a b) := by
  obtain ⟨A, c, rfl⟩ := hO.sh
  refine calls_W (vs := [_, _, _, _, _]) Try.func110 rfl (by kernel_rfl) rfl ?_
  (repeat (first | with_reducible refine W.seq ?_ | with_reducible refine Ops.nil ?_ | with_reducible refine W.region ?_ | refine z_p (kk := ?_) | refine z_a (kk := ?_)))
  refine W.condF rfl (by first | rfl | assumption | (simp only [bnf] <;> omega) | (simp only [*, bnf]; done) | fail) ?_
  (repeat (first | with_reducible refine W.seq ?_ | with_reducible refine Ops.nil ?_ | with_reducible refine W.region ?_ | refine z_p (kk := ?_) | refine z_a (kk := ?_) | with_reducible refine W.skip ?_))
  refine W.condF rfl (by first | rfl | assumption | (simp only [bnf] <;> omega) | (simp only [*, bnf]; done) | fail) ?_
  (repeat (first | with_reducible refine W.seq ?_ | with_reducible refine W.region ?_ | refine z_p (kk := ?_) | refine z_a (kk := ?_) | with_reducible refine W.skip ?_))
  refine Ops.half (s := a + b) rfl rfl rfl rfl rfl rfl rfl rfl rfl rfl rfl rfl rfl rfl rfl (by omega) ?_
  have hm1 : a < (a + b) / 2 := by omega
  have hm2 : (a + b) / 2 < b := by omega
  (repeat (first | with_reducible refine W.seq ?_ | with_reducible refine Ops.nil ?_ | with_reducible refine W.region ?_ | refine z_p (kk := ?_) | refine z_a (kk := ?_)))
  refine W.cut (fun ρ w1 => ∃ s r : Nat, ρ = [(0, .slice A os0.length c), (1, .int .i64 a), (2, .int .i64 m), (3, .int .i64 b), (4, vf), (18, .int .i64 (((a + b) / 2 : Nat) : Int)), (19, .int .i64 (((a + b) / 2 + m : Nat) : Int)), (20, .int .i64 s), (21, .int .i64 r)] ∧ MiS K os0 a m b s r ∧ w1 = w) ?_ ?_
  · (first | refine W.condD rfl (fun hc => ?_) (fun hc => ?_) | refine W.condE rfl (fun hc => ?_) (fun hc => ?_) | refine W.condN rfl (fun hc => ?_) (fun hc => ?_) | refine W.cond rfl (fun hc => ?_) (fun hc => ?_))
    · have hx : (a + b) / 2 < m := by omega
      (repeat (first | with_reducible refine W.seq ?_ | with_reducible refine Ops.nil ?_ | with_reducible refine W.region ?_ | refine z_p (kk := ?_) | refine z_a (kk := ?_)))
      have e1 : (((a + b) / 2 : Nat) : Int) + m - b = (((a + b) / 2 + m - b : Nat) : Int) := by omega
      simp only [e1]
      exact W.endl ⟨_, ⟨(a + b) / 2 + m - b, (a + b) / 2, rfl, ⟨by omega, .inl ⟨hx, by omega, by omega⟩, .inl ⟨hx, by omega⟩, .inl ⟨hx, rfl⟩⟩, rfl⟩, (by repeat (first | exact trivial | refine And.intro rfl ?_))⟩
    · have hx : m ≤ (a + b) / 2 := by omega
      (repeat (first | with_reducible refine W.seq ?_ | with_reducible refine Ops.nil ?_ | with_reducible refine W.region ?_ | refine z_p (kk := ?_)))
      exact W.endl ⟨_, ⟨a, m, rfl, ⟨by omega, .inr ⟨hx, by omega, by omega⟩, .inr (.inl ⟨hx, rfl⟩), .inr (.inl ⟨hx, rfl⟩)⟩, rfl⟩, (by repeat (first | exact trivial | refine And.intro rfl ?_))⟩
  rintro ρ w1 ⟨s, r, rfl, hM, rfl⟩
  (repeat (first | with_reducible refine W.seq ?_ | with_reducible refine Ops.nil ?_ | with_reducible refine W.region ?_ | refine z_p (kk := ?_) | refine z_a (kk := ?_) | with_reducible refine W.block ?_))
  have e2 : (((a + b) / 2 + m : Nat) : Int) - 1 = (((a + b) / 2 + m - 1 : Nat) : Int) := by omega
  simp only [e2]
  refine W.loop (fun z ρ w1 => ∃ (i j : Nat), z = j - i ∧ ρ = [(0, .slice A os0.length c), (1, .int .i64 a), (2, .int .i64 m), (3, .int .i64 b), (4, vf), (18, .int .i64 (((a + b) / 2 : Nat) : Int)), (19, .int .i64 (((a + b) / 2 + m : Nat) : Int)), (20, .int .i64 i), (21, .int .i64 j), (22, .int .i64 (((a + b) / 2 + m - 1 : Nat) : Int))] ∧ OH G wB w1 (.slice A os0.length c) os0 ∧ MiS K os0 a m b i j)
    ⟨_, _, ⟨s, r, rfl, rfl, hO, hM⟩, (by repeat (first | exact trivial | refine And.intro rfl ?_))⟩ ?_
  clear hO hM
  rintro z ρ w1 ⟨i, j, rfl, rfl, hO, hM⟩
  have hij0 := hM.ij
  have hrg := hM.rng
  have hb2 := hO.bel
  (repeat (first | with_reducible refine W.seq ?_ | with_reducible refine Ops.nil ?_ | with_reducible refine W.region ?_ | refine z_p (kk := ?_)))
  (first | refine W.condD rfl (fun hc => ?_) (fun hc => ?_) | refine W.condE rfl (fun hc => ?_) (fun hc => ?_) | refine W.condN rfl (fun hc => ?_) (fun hc => ?_) | refine W.cond rfl (fun hc => ?_) (fun hc => ?_))
  · have hij : i < j := by omega
    have hsl : OJ 37 fA fB wB w1 (.slice A os0.length c) os0 := hO.oi
    have hcm := hcc ((i + j) / 2) ((a + b) / 2 + m - 1 - (i + j) / 2) (by omega) (by omega) (by omega) (by omega)
    have hu := fun hk => hM.up (show i ≤ (i + j) / 2 by omega) (by omega) hk
    have hd := fun hk => hM.down (show i ≤ (i + j) / 2 by omega) (by omega) hk
    (repeat (first | with_reducible refine W.seq ?_ | with_reducible refine W.region ?_ | refine z_p (kk := ?_) | refine z_a (kk := ?_) | with_reducible refine W.skip ?_ | with_reducible refine W.block ?_))
    refine Ops.half (s := i + j) rfl rfl rfl rfl rfl rfl rfl rfl rfl rfl rfl rfl rfl rfl rfl (by omega) ?_
    have h1 : i ≤ (i + j) / 2 := by omega
    have h2 : (i + j) / 2 < j := by omega
    generalize (i + j) / 2 = h at *
    (repeat (first | with_reducible refine W.seq ?_ | with_reducible refine Ops.nil ?_ | refine z_p (kk := ?_)))
    refine W.ordA 99 [(0, 1), (1, 1), (2, 1), (3, 1), (4, 1), (5, 1), (6, 2), (7, 1), (8, 1), (9, 1), (10, 2), (11, 2), (12, 1), (13, 1)] rfl (by kernel_rfl) rfl (by kernel_rfl) (fun _ _ _ h => h) ?_
    (repeat (first | refine x_p (kk := ?_) | refine x_a (kk := ?_)))
    (try ((first | refine x_J1 (kk := fun _ => ?_) | refine x_J2 (kk := fun _ => ?_))))
    (repeat (first | refine x_p (kk := ?_)))
    (try ((first | refine x_J1 (kk := fun _ => ?_) | refine x_J2 (kk := fun _ => ?_))))
    skip
    have e3 : (((((a + b) / 2 + m - 1 : Nat) : Int)) - (h : Int)).toNat = (a + b) / 2 + m - 1 - h := by omega
    refine OrdA.call rfl rfl rfl rfl rfl (callV_g hvf rfl rfl rfl) hfm (v := .int .i64 (cv (os0.getD ((a + b) / 2 + m - 1 - h) 0) (os0.getD h 0))) (fun w' hw' => ?_) ?_
    · rw [e3]
      exact (hcm.call w' (Below.via hb2 hw') (hGs _ _ hO.g (Kp.of_below hw'))).mono fun e w'' ⟨v, he, hv, hb⟩ => ⟨v, he, hv, Below.via hw' hb⟩
    (repeat (first | refine x_p (kk := ?_)))
    (try ((first | refine x_J1 (kk := fun _ => ?_) | refine x_J2 (kk := fun _ => ?_))))
    skip
    (try ((first | refine x_J1 (kk := fun _ => ?_) | refine x_J2 (kk := fun _ => ?_))))
    skip
    refine OrdA.nil (fun w3 hb3 => ?_)
    have hO3 := hO.below hGs hb3
    clear hO hsl
    by_cases hx : cv (os0.getD ((a + b) / 2 + m - 1 - h) 0) (os0.getD h 0) < 0
    · have hM' := hd (hcm.lt.1 hx)
      skip
      refine W.condF rfl (by first | rfl | assumption | (simp only [bnf] <;> omega) | (simp only [*, bnf]; done) | fail) ?_
      (repeat (first | with_reducible refine Ops.nil ?_ | with_reducible refine W.region ?_ | refine z_p (kk := ?_) | with_reducible refine W.endb ?_))
      exact W.endl ⟨_, _, ⟨⟨i, h, rfl, rfl, hO3, hM'⟩, by omega⟩, (by repeat (first | exact trivial | refine And.intro rfl ?_))⟩
    · have hM' := hu (by
        have h1 := hcm.lt
        have h2 := hcm.ne
        omega)
      skip
      refine W.condT rfl (by first | rfl | assumption | (simp only [bnf] <;> omega) | (simp only [*, bnf]; done) | fail) ?_
      (repeat (first | with_reducible refine Ops.nil ?_ | with_reducible refine W.region ?_ | refine z_p (kk := ?_) | refine z_a (kk := ?_) | with_reducible refine W.endb ?_))
      exact W.endl ⟨_, _, ⟨⟨h + 1, j, rfl, rfl, hO3, hM'⟩, by omega⟩, (by repeat (first | exact trivial | refine And.intro rfl ?_))⟩
  · have hij : i = j := by omega
    subst hij
    clear hij0
    (repeat (first | with_reducible refine W.seq ?_ | with_reducible refine Ops.nil ?_ | with_reducible refine W.region ?_ | refine z_p (kk := ?_) | refine z_a (kk := ?_) | refine W.exit rfl ?_))
    have e3 : (((a + b) / 2 + m : Nat) : Int) - (i : Int) = (((a + b) / 2 + m - i : Nat) : Int) := by omega
    simp only [e3]
    have hcut := fun (ns : List Int) => hM.cut (ns := ns) (by omega) (by omega) hs1 hs2
    have hi1 : a ≤ i := by omega
    have hi2 : i ≤ m := by omega
    have hi3 : i ≤ (a + b) / 2 := by omega
    have hi4 : i + b ≥ (a + b) / 2 + m := by omega
    clear hM hrg hs1 hs2
    refine Ops.cut (fun ρ w' => ∃ q : Bool, ρ = [(0, .slice A os0.length c), (1, .int .i64 a), (2, .int .i64 m), (3, .int .i64 b), (4, vf), (18, .int .i64 (((a + b) / 2 : Nat) : Int)), (20, .int .i64 i), (24, .int .i64 (((a + b) / 2 + m - i : Nat) : Int)), (185, .bool q)] ∧ w' = w1 ∧ (q = true ↔ i < m ∧ m < (a + b) / 2 + m - i)) ?_ ?_
    · by_cases hx : i < m
      · by_cases hy : m < (a + b) / 2 + m - i
        · (repeat (first | with_reducible refine Ops.nil ?_ | refine z_p (kk := ?_) | refine z_y (kk := ?_) | refine z_h (kk := ?_)))
          exact W.endl ⟨_, ⟨true, rfl, rfl, ⟨fun _ => ⟨hx, hy⟩, fun _ => rfl⟩⟩, (by repeat (first | exact trivial | refine And.intro rfl ?_ | refine And.intro (look_b rfl (by first | rfl | assumption | (simp only [bnf] <;> omega) | (simp only [*, bnf]; done) | fail)) ?_))⟩
        · (repeat (first | with_reducible refine Ops.nil ?_ | refine z_p (kk := ?_) | refine z_y (kk := ?_) | refine z_h (kk := ?_)))
          exact W.endl ⟨_, ⟨false, rfl, rfl, ⟨fun h => (by cases h), fun h => absurd h.2 hy⟩⟩, (by repeat (first | exact trivial | refine And.intro rfl ?_ | refine And.intro (look_b rfl (by first | rfl | assumption | (simp only [bnf] <;> omega) | (simp only [*, bnf]; done) | fail)) ?_))⟩
      · (repeat (first | with_reducible refine Ops.nil ?_ | refine z_p (kk := ?_) | refine z_n (kk := ?_) | refine z_g (kk := ?_)))
        exact W.endl ⟨_, ⟨false, rfl, rfl, ⟨fun h => (by cases h), fun h => absurd h.1 hx⟩⟩, (by repeat (first | exact trivial | refine And.intro rfl ?_ | refine And.intro (look_b rfl (by first | rfl | assumption | (simp only [bnf] <;> omega) | (simp only [*, bnf]; done) | fail)) ?_))⟩
    rintro ρ w' ⟨q, rfl, rfl, hq⟩
    refine W.cut (fun ρ w2 => ∃ os1 : List Int, ρ = [(0, .slice A os0.length c), (1, .int .i64 a), (2, .int .i64 m), (3, .int .i64 b), (4, vf), (18, .int .i64 (((a + b) / 2 : Nat) : Int)), (20, .int .i64 i), (24, .int .i64 (((a + b) / 2 + m - i : Nat) : Int))] ∧ OH G wB w2 (.slice A os0.length c) os1 ∧ SegP a b os0 os1 ∧
      (∀ x : Nat, a ≤ x → x < b → os1.getD x 0 = if x < i then os0.getD x 0 else if x < (a + b) / 2 then os0.getD (x + (m - i)) 0 else if x < (a + b) / 2 + m - i then os0.getD (x - ((a + b) / 2 - i)) 0 else os0.getD x 0)) ?_ ?_
    · (first | refine W.condD rfl (fun hc => ?_) (fun hc => ?_) | refine W.condE rfl (fun hc => ?_) (fun hc => ?_) | refine W.condN rfl (fun hc => ?_) (fun hc => ?_) | refine W.cond rfl (fun hc => ?_) (fun hc => ?_))
      · obtain ⟨hx1, hx2⟩ := hq.1 hc
        have hcl := rotate_c (vf := vf) hO hGs hx1 hx2 (by omega) (by omega)
        (repeat (first | with_reducible refine W.region ?_ | refine z_p (kk := ?_)))
        refine Ops.call rfl rfl rfl rfl rfl hcl (fun v w2 hR2 => ?_)
        obtain ⟨os1, hO1, hS1, hT1⟩ := hR2
        (repeat (first | with_reducible refine Ops.nil ?_))
        refine W.endl ⟨_, ⟨os1, rfl, hO1, hS1.wide (by omega) (by omega), fun x h1 h2 => ?_⟩, (by repeat (first | exact trivial | refine And.intro rfl ?_))⟩
        by_cases f1 : x < i
        · rw [if_pos f1, hS1.out _ (by omega)]
        · rw [if_neg f1]
          by_cases f2 : x < (a + b) / 2
          · rw [if_pos f2, hT1 x (by omega) (by omega), rotT, if_pos (by omega)]
          · rw [if_neg f2]
            by_cases f3 : x < (a + b) / 2 + m - i
            · rw [if_pos f3, hT1 x (by omega) f3, rotT, if_neg (by omega)]; congr 1; omega
            · rw [if_neg f3, hS1.out _ (by omega)]
      · have hx' : ¬ (i < m ∧ m < (a + b) / 2 + m - i) := fun h => by have := hq.2 h; simp_all
        (repeat (first | with_reducible refine W.skip ?_))
        refine W.endl ⟨_, ⟨os0, rfl, hO, SegP.refl _ _ _, fun x h1 h2 => ?_⟩, (by repeat (first | exact trivial | refine And.intro rfl ?_))⟩
        by_cases f1 : x < i
        · rw [if_pos f1]
        · rw [if_neg f1]
          by_cases f2 : x < (a + b) / 2
          · rw [if_pos f2]; congr 1; omega
          · rw [if_neg f2]
            by_cases f3 : x < (a + b) / 2 + m - i
            · rw [if_pos f3]; congr 1; omega
            · rw [if_neg f3]
    clear hO
    rintro ρ w2 ⟨os1, rfl, hO1, hS1, hT1⟩
    obtain ⟨hC, c1, c2, c3, c4⟩ := hcut os1 hT1
    clear hcut hT1
    have hl1 := hS1.len
    (repeat (first | with_reducible refine W.seq ?_ | with_reducible refine W.region ?_ | refine z_p (kk := ?_)))
    refine Ops.cut (fun ρ w' => ∃ q : Bool, ρ = [(0, .slice A os0.length c), (1, .int .i64 a), (2, .int .i64 m), (3, .int .i64 b), (4, vf), (18, .int .i64 (((a + b) / 2 : Nat) : Int)), (20, .int .i64 i), (24, .int .i64 (((a + b) / 2 + m - i : Nat) : Int)), (199, .bool q)] ∧ w' = w2 ∧ (q = true ↔ a < i ∧ i < (a + b) / 2)) ?_ ?_
    · by_cases hx : a < i
      · by_cases hy : i < (a + b) / 2
        · (repeat (first | with_reducible refine Ops.nil ?_ | refine z_p (kk := ?_) | refine z_y (kk := ?_) | refine z_h (kk := ?_)))
          exact W.endl ⟨_, ⟨true, rfl, rfl, ⟨fun _ => ⟨hx, hy⟩, fun _ => rfl⟩⟩, (by repeat (first | exact trivial | refine And.intro rfl ?_ | refine And.intro (look_b rfl (by first | rfl | assumption | (simp only [bnf] <;> omega) | (simp only [*, bnf]; done) | fail)) ?_))⟩
        · (repeat (first | with_reducible refine Ops.nil ?_ | refine z_p (kk := ?_) | refine z_y (kk := ?_) | refine z_h (kk := ?_)))
          exact W.endl ⟨_, ⟨false, rfl, rfl, ⟨fun h => (by cases h), fun h => absurd h.2 hy⟩⟩, (by repeat (first | exact trivial | refine And.intro rfl ?_ | refine And.intro (look_b rfl (by first | rfl | assumption | (simp only [bnf] <;> omega) | (simp only [*, bnf]; done) | fail)) ?_))⟩
      · (repeat (first | with_reducible refine Ops.nil ?_ | refine z_p (kk := ?_) | refine z_n (kk := ?_) | refine z_g (kk := ?_)))
        exact W.endl ⟨_, ⟨false, rfl, rfl, ⟨fun h => (by cases h), fun h => absurd h.1 hx⟩⟩, (by repeat (first | exact trivial | refine And.intro rfl ?_ | refine And.intro (look_b rfl (by first | rfl | assumption | (simp only [bnf] <;> omega) | (simp only [*, bnf]; done) | fail)) ?_))⟩
    rintro ρ w' ⟨q, rfl, rfl, hq⟩
    refine W.cut (fun ρ w3 => ∃ os2 : List Int, ρ = [(0, .slice A os0.length c), (1, .int .i64 a), (2, .int .i64 m), (3, .int .i64 b), (4, vf), (18, .int .i64 (((a + b) / 2 : Nat) : Int)), (20, .int .i64 i), (24, .int .i64 (((a + b) / 2 + m - i : Nat) : Int))] ∧ OH G wB w3 (.slice A os0.length c) os2 ∧ SegP a ((a + b) / 2) os1 os2 ∧ SortK K os2 a ((a + b) / 2)) ?_ ?_
    · (first | refine W.condD rfl (fun hc => ?_) (fun hc => ?_) | refine W.condE rfl (fun hc => ?_) (fun hc => ?_) | refine W.condN rfl (fun hc => ?_) (fun hc => ?_) | refine W.cond rfl (fun hc => ?_) (fun hc => ?_))
      · obtain ⟨hx1, hx2⟩ := hq.1 hc
        have hcl := ih (a := a) (m := i) (b := (a + b) / 2) (by omega) hO1 hGs hx1 hx2 (by omega) (by omega) (fun p q h1 h2 h3 h4 => by
          obtain ⟨p', p1, p2, ep⟩ := c1 p h1 h2
          obtain ⟨q', q1, q2, eq⟩ := c2 q h3 h4
          rw [ep, eq]
          exact hcc p' q' p1 p2 q1 q2) hC.s1 hC.s2
        (repeat (first | with_reducible refine W.region ?_ | refine z_p (kk := ?_)))
        refine Ops.call rfl rfl rfl rfl rfl hcl (fun v w3 hR2 => ?_)
        obtain ⟨os2, hO2, hS2, hK2⟩ := hR2
        (repeat (first | with_reducible refine Ops.nil ?_))
        exact W.endl ⟨_, ⟨os2, rfl, hO2, hS2, hK2⟩, (by repeat (first | exact trivial | refine And.intro rfl ?_))⟩
      · have hx' : ¬ (a < i ∧ i < (a + b) / 2) := fun h => by have := hq.2 h; simp_all
        (repeat (first | with_reducible refine W.skip ?_))
        refine W.endl ⟨_, ⟨os1, rfl, hO1, SegP.refl _ _ _, ?_⟩, (by repeat (first | exact trivial | refine And.intro rfl ?_))⟩
        by_cases hx : a < i
        · rw [show (a + b) / 2 = i by omega]; exact hC.s1
        · have := hC.s2
          rw [show i = a by omega] at this; exact this
    clear hO1
    rintro ρ w3 ⟨os2, rfl, hO2, hS2, hK2⟩
    have hl2 := hS2.len
    (repeat (first | with_reducible refine W.seq ?_ | with_reducible refine W.region ?_ | refine z_p (kk := ?_)))
    refine Ops.cut (fun ρ w' => ∃ q : Bool, ρ = [(0, .slice A os0.length c), (1, .int .i64 a), (2, .int .i64 m), (3, .int .i64 b), (4, vf), (18, .int .i64 (((a + b) / 2 : Nat) : Int)), (20, .int .i64 i), (24, .int .i64 (((a + b) / 2 + m - i : Nat) : Int)), (213, .bool q)] ∧ w' = w3 ∧ (q = true ↔ (a + b) / 2 < (a + b) / 2 + m - i ∧ (a + b) / 2 + m - i < b)) ?_ ?_
    · by_cases hx : (a + b) / 2 < (a + b) / 2 + m - i
      · by_cases hy : (a + b) / 2 + m - i < b
        · (repeat (first | with_reducible refine Ops.nil ?_ | refine z_p (kk := ?_) | refine z_y (kk := ?_) | refine z_h (kk := ?_)))
          exact W.endl ⟨_, ⟨true, rfl, rfl, ⟨fun _ => ⟨hx, hy⟩, fun _ => rfl⟩⟩, (by repeat (first | exact trivial | refine And.intro rfl ?_ | refine And.intro (look_b rfl (by first | rfl | assumption | (simp only [bnf] <;> omega) | (simp only [*, bnf]; done) | fail)) ?_))⟩
        · (repeat (first | with_reducible refine Ops.nil ?_ | refine z_p (kk := ?_) | refine z_y (kk := ?_) | refine z_h (kk := ?_)))
          exact W.endl ⟨_, ⟨false, rfl, rfl, ⟨fun h => (by cases h), fun h => absurd h.2 hy⟩⟩, (by repeat (first | exact trivial | refine And.intro rfl ?_ | refine And.intro (look_b rfl (by first | rfl | assumption | (simp only [bnf] <;> omega) | (simp only [*, bnf]; done) | fail)) ?_))⟩
      · (repeat (first | with_reducible refine Ops.nil ?_ | refine z_p (kk := ?_) | refine z_n (kk := ?_) | refine z_g (kk := ?_)))
        exact W.endl ⟨_, ⟨false, rfl, rfl, ⟨fun h => (by cases h), fun h => absurd h.1 hx⟩⟩, (by repeat (first | exact trivial | refine And.intro rfl ?_ | refine And.intro (look_b rfl (by first | rfl | assumption | (simp only [bnf] <;> omega) | (simp only [*, bnf]; done) | fail)) ?_))⟩
    rintro ρ w' ⟨q, rfl, rfl, hq⟩
    have e4 : (a + b) / 2 < (a + b) / 2 + m - i ∧ (a + b) / 2 + m - i < b ∨ (a + b) / 2 + m - i = (a + b) / 2 ∨ (a + b) / 2 + m - i = b := by omega
    have o2 : ∀ x : Nat, (a + b) / 2 ≤ x → x < b → os2.getD x 0 = os1.getD x 0 := fun x h1 h2 => hS2.out x (by omega)
    (first | refine W.condD rfl (fun hc => ?_) (fun hc => ?_) | refine W.condE rfl (fun hc => ?_) (fun hc => ?_) | refine W.condN rfl (fun hc => ?_) (fun hc => ?_) | refine W.cond rfl (fun hc => ?_) (fun hc => ?_))
    · obtain ⟨hx1, hx2⟩ := hq.1 hc
      have hcl := ih (a := (a + b) / 2) (m := (a + b) / 2 + m - i) (b := b) (by omega) hO2 hGs hx1 hx2 (by omega) (by omega) (fun p q h1 h2 h3 h4 => by
        obtain ⟨p', p1, p2, ep⟩ := c3 p h1 h2
        obtain ⟨q', q1, q2, eq⟩ := c4 q h3 h4
        rw [o2 p (by omega) (by omega), o2 q (by omega) (by omega), ep, eq]
        exact hcc p' q' p1 p2 q1 q2) (hC.s3.same fun p h1 h2 => o2 p h1 (by omega)) (hC.s4.same fun p h1 h2 => o2 p (by omega) h2)
      (repeat (first | with_reducible refine W.region ?_ | refine z_p (kk := ?_)))
      refine Ops.call rfl rfl rfl rfl rfl hcl (fun v w3 hR2 => ?_)
      obtain ⟨os3, hO3, hS3, hK3⟩ := hR2
      have hD := hC.done hS2 hK2 hS3 hK3
      (repeat (first | with_reducible refine Ops.nil ?_))
      exact W.fend rfl ⟨os3, hO3, hS1.trans hD.1, hD.2⟩
    · have hx' : ¬ ((a + b) / 2 < (a + b) / 2 + m - i ∧ (a + b) / 2 + m - i < b) := fun h => by have := hq.2 h; simp_all
      have hK3 : SortK K os2 ((a + b) / 2) b := by
        rcases e4 with e4 | e4 | e4
        · exact absurd e4 hx'
        · have h4 := hC.s4
          rw [e4] at h4
          exact h4.same fun p h1 h2 => o2 p h1 h2
        · have h3 := hC.s3
          rw [e4] at h3
          exact h3.same fun p h1 h2 => o2 p h1 h2
      have hD := hC.done hS2 hK2 (SegP.refl _ _ _) hK3
      (repeat (first | with_reducible refine W.skip ?_))
      exact W.fend rfl ⟨os2, hO2, hS1.trans hD.1, hD.2⟩
theorem symMerge_c {G : World → Prop} {wB : World} {vf : Value} {fc : Nat} {first cap : List Value} {cv : Int → Int → Int} {K : Int → Int} (hvf : vf = .func (.func fc) first.toArray cap.toArray) (hfm : memB (Fns.L Try.prog) fc = true) : ∀ N, SymC G wB vf fc first cap cv K N := by
  intro N
  induction N with
  | zero =>
    intro w ov os0 a m b hN
    omega
  | succ N ih =>
    intro w ov os0 a m b hN hO hGs ham hmb hb hl hcc hs1 hs2
    by_cases h1 : m = a + 1
    · subst h1
      exact sym1_c hO hGs (by omega) hb hl hvf hfm hcc hs2
    · by_cases h2 : b = m + 1
      · subst h2
        exact sym2_c hO hGs (by omega) hb hl hvf hfm hcc hs1
      · exact sym3_c ih hN hO hGs (by omega) (by omega) hb hl hvf hfm hcc hs1 hs2
end Go.Proofs.Ytehjmakiljhjdaa
namespace Go.Proofs.Ytehjmakiljhjdaa
open Go Go.RowKit Go.Proofs.Ytehjmakiljhjdaa.VW
open Go.Proofs.Ytehjmakiljhjdaa.HP (SegP SortK Blk)
attribute [local irreducible] W Ops OrdA VW.Ord OrdX
set_option maxHeartbeats 8000000 in
theorem stable_c {G : World → Prop} {wB w : World} {ov vf : Value} {os0 : List Int} {n fc : Nat} {first cap : List Value} {cv : Int → Int → Int} {K : Int → Int} (hO : OH G wB w ov os0) (hGs : Gst G ov) (hn : n = os0.length) (hl : n < 60) (hvf : vf = .func (.func fc) first.toArray cap.toArray) (hfm : memB (Fns.L Try.prog) fc = true)
    (hcc : ∀ p q : Nat, p < q → q < n → Cmp G wB fc first cap cv K (os0.getD p 0) (os0.getD q 0)) :
    Calls Try.prog 93 #[ov, .int .i64 n, vf] w (Ret fun r w' => ∃ os, OH G wB w' ov os ∧ SegP 0 n os0 os ∧ SortK K os 0 n) := by
  obtain ⟨A, c, rfl⟩ := hO.sh
  refine calls_W (vs := [_, _, _]) Try.func93 rfl (by kernel_rfl) rfl ?_
  (repeat (first | with_reducible refine W.seq ?_ | with_reducible refine Ops.nil ?_ | with_reducible refine W.region ?_ | refine z_p (kk := ?_) | with_reducible refine W.block ?_))
  refine W.loop (fun z ρ w1 => ∃ (t : Nat) (os : List Int), z = n - 20 * t ∧ 20 * t ≤ n ∧ ρ = [(0, .slice A os0.length c), (1, .int .i64 n), (2, vf), (6, .int .i64 20), (7, .int .i64 ((20 * t : Nat) : Int)), (8, .int .i64 ((20 * t + 20 : Nat) : Int))] ∧ OH G wB w1 (.slice A os0.length c) os ∧ Blk K 20 (20 * t) os0 os)
    ⟨_, _, ⟨0, os0, rfl, by omega, rfl, hO, Blk.start K 20 os0⟩, (by repeat (first | exact trivial | refine And.intro rfl ?_))⟩ ?_
  clear hO
  rintro z ρ w1 ⟨t, os, rfl, htn, rfl, hO, hB⟩
  have hol := hB.seg.len
  have hcs : ∀ p q : Nat, 20 * t ≤ p → p < q → q < n → Cmp G wB fc first cap cv K (os.getD p 0) (os.getD q 0) := fun p q h1 h2 h3 => by
    rw [hB.seg.out p (by omega), hB.seg.out q (by omega)]; exact hcc p q h2 h3
  (repeat (first | with_reducible refine W.seq ?_ | with_reducible refine Ops.nil ?_ | with_reducible refine W.region ?_ | refine z_p (kk := ?_)))
  (first | refine W.condD rfl (fun hc => ?_) (fun hc => ?_) | refine W.condE rfl (fun hc => ?_) (fun hc => ?_) | refine W.condN rfl (fun hc => ?_) (fun hc => ?_) | refine W.cond rfl (fun hc => ?_) (fun hc => ?_))
  · have htn' : 20 * t + 20 ≤ n := by omega
    have hcl := insertion_c (a := 20 * t) (b := 20 * t + 20) hO hGs (by omega) (by omega) (by omega) hvf hfm (fun p q h1 h2 h3 => hcs p q h1 h2 (by omega))
    (repeat (first | with_reducible refine W.seq ?_ | with_reducible refine W.region ?_ | refine z_p (kk := ?_) | with_reducible refine W.skip ?_ | with_reducible refine W.block ?_))
    refine Ops.call rfl rfl rfl rfl rfl hcl (fun v w2 hR2 => ?_)
    obtain ⟨os1, hO1, hS1, hK1⟩ := hR2
    have hB' := hB.ins (by omega) (by omega) hS1 hK1
    (repeat (first | with_reducible refine W.seq ?_ | with_reducible refine Ops.nil ?_ | with_reducible refine W.region ?_ | refine z_p (kk := ?_) | refine z_a (kk := ?_) | with_reducible refine W.endb ?_))
    have e1 : ((20 * t + 20 : Nat) : Int) + 20 = ((20 * (t + 1) + 20 : Nat) : Int) := by omega
    simp only [e1]
    exact W.endl ⟨_, _, ⟨⟨t + 1, os1, rfl, by omega, by rw [show 20 * (t + 1) = 20 * t + 20 by omega], hO1, by rw [show 20 * (t + 1) = 20 * t + 20 by omega]; exact hB'⟩, by omega⟩, (by repeat (first | exact trivial | refine And.intro rfl ?_))⟩
  have hcl := insertion_c (a := 20 * t) (b := n) hO hGs (by omega) (by omega) (by omega) hvf hfm (fun p q h1 h2 h3 => hcs p q h1 h2 (by omega))
  (repeat (first | with_reducible refine W.seq ?_ | with_reducible refine W.region ?_ | refine z_p (kk := ?_) | refine W.exit rfl ?_))
  refine Ops.call rfl rfl rfl rfl rfl hcl (fun v w2 hR2 => ?_)
  obtain ⟨os1, hO1, hS1, hK1⟩ := hR2
  have hB1 := hB.ins (by omega) (by omega) hS1 hK1
  clear hcl hB hS1 hK1 hO hol hcs
  (repeat (first | with_reducible refine Ops.nil ?_ | with_reducible refine W.block ?_))
  refine W.loop (fun z ρ w1 => ∃ (bs : Nat) (os : List Int), z = 80 - bs ∧ ρ = [(0, .slice A os0.length c), (1, .int .i64 n), (2, vf), (6, .int .i64 bs)] ∧ OH G wB w1 (.slice A os0.length c) os ∧ (bs = 20 ∧ Blk K 20 n os0 os ∨ bs = 40 ∧ Blk K 40 n os0 os ∨ bs = 80 ∧ Blk K 80 n os0 os))
    ⟨_, _, ⟨20, os1, rfl, rfl, hO1, .inl ⟨rfl, hB1⟩⟩, (by repeat (first | exact trivial | refine And.intro rfl ?_))⟩ ?_
  clear hO1 hB1
  rintro z ρ w1 ⟨bs, os, hz, rfl, hO, hB⟩
  subst hz
  by_cases hbn : bs < n
  · rcases hB with ⟨rfl, hB⟩ | ⟨rfl, hB⟩ | ⟨rfl, hB⟩
    · (repeat (first | with_reducible refine W.seq ?_ | with_reducible refine Ops.nil ?_ | with_reducible refine W.region ?_ | refine z_p (kk := ?_)))
      refine W.condT rfl (by first | rfl | assumption | (simp only [bnf] <;> omega) | (simp only [*, bnf]; done) | fail) ?_
      (repeat (first | with_reducible refine W.seq ?_ | with_reducible refine Ops.nil ?_ | with_reducible refine W.region ?_ | refine z_p (kk := ?_) | refine z_a (kk := ?_) | with_reducible refine W.skip ?_ | with_reducible refine W.block ?_))
      refine W.loop (fun z ρ w1 => ∃ (os : List Int) (a b : Nat), z = 80 - b ∧ ρ = [(0, .slice A os0.length c), (1, .int .i64 n), (2, vf), (6, .int .i64 20), (7, .int .i64 a), (8, .int .i64 b)] ∧ OH G wB w1 (.slice A os0.length c) os ∧ (a = 0 ∧ b = 40 ∧ Blk K 20 n os0 os ∨ a = 40 ∧ b = 80 ∧ 40 ≤ n ∧ Blk K 40 n os0 os))
        ⟨_, _, ⟨os, 0, 40, rfl, rfl, hO, .inl ⟨rfl, rfl, hB⟩⟩, (by repeat (first | exact trivial | refine And.intro rfl ?_))⟩ ?_
      clear hO hB
      rintro z ρ w1 ⟨os, a, b, hz, rfl, hO, hB⟩
      subst hz
      rcases hB with ⟨rfl, rfl, hB⟩ | ⟨rfl, rfl, hn4, hB⟩
      · have hol := hB.seg.len
        by_cases hn4 : 40 ≤ n
        · have hcl := symMerge_c (K := K) (cv := cv) hvf hfm 41 (a := 0) (m := 20) (b := 40) (by omega) hO hGs (by omega) (by omega) (by omega) (by omega) (fun p q h1 h2 h3 h4 => by
            obtain ⟨y, z, y1, y2, y3, y4⟩ := hB.ord (show p < n by omega) (show q < n by omega) (by omega)
            rw [y3, y4]; exact hcc y z y1 y2) (fun p q h1 h2 h3 => hB.srt p q h2 (by omega) (by omega)) (fun p q h1 h2 h3 => hB.srt p q h2 (by omega) (by omega))
          (repeat (first | with_reducible refine W.seq ?_ | with_reducible refine Ops.nil ?_ | with_reducible refine W.region ?_ | refine z_p (kk := ?_)))
          refine W.condT rfl (by first | rfl | assumption | (simp only [bnf] <;> omega) | (simp only [*, bnf]; done) | fail) ?_
          (repeat (first | with_reducible refine W.seq ?_ | with_reducible refine W.region ?_ | refine z_p (kk := ?_) | refine z_a (kk := ?_) | with_reducible refine W.skip ?_ | with_reducible refine W.block ?_))
          refine Ops.call rfl rfl rfl rfl rfl hcl (fun v w2 hR2 => ?_)
          obtain ⟨os1, hO1, hS1, hK1⟩ := hR2
          have hB' := hB.half hS1 hK1 hl hn4
          (repeat (first | with_reducible refine W.seq ?_ | with_reducible refine Ops.nil ?_ | with_reducible refine W.region ?_ | refine z_p (kk := ?_) | refine z_a (kk := ?_) | with_reducible refine W.endb ?_))
          exact W.endl ⟨_, _, ⟨⟨os1, 40, 80, rfl, rfl, hO1, .inr ⟨rfl, rfl, hn4, hB'⟩⟩, by omega⟩, (by repeat (first | exact trivial | refine And.intro rfl ?_))⟩
        · have hcl := symMerge_c (K := K) (cv := cv) hvf hfm 41 (a := 0) (m := 20) (b := n) (by omega) hO hGs (by omega) (by omega) (by omega) (by omega) (fun p q h1 h2 h3 h4 => by
            obtain ⟨y, z, y1, y2, y3, y4⟩ := hB.ord (show p < n by omega) (show q < n by omega) (by omega)
            rw [y3, y4]; exact hcc y z y1 y2) (fun p q h1 h2 h3 => hB.srt p q h2 (by omega) (by omega)) (fun p q h1 h2 h3 => hB.srt p q h2 (by omega) (by omega))
          (repeat (first | with_reducible refine W.seq ?_ | with_reducible refine Ops.nil ?_ | with_reducible refine W.region ?_ | refine z_p (kk := ?_)))
          refine W.condF rfl (by first | rfl | assumption | (simp only [bnf] <;> omega) | (simp only [*, bnf]; done) | fail) ?_
          (repeat (first | with_reducible refine W.seq ?_ | with_reducible refine Ops.nil ?_ | with_reducible refine W.region ?_ | refine z_p (kk := ?_) | refine z_a (kk := ?_) | refine W.exit rfl ?_))
          refine W.condT rfl (by first | rfl | assumption | (simp only [bnf] <;> omega) | (simp only [*, bnf]; done) | fail) ?_
          (repeat (first | with_reducible refine W.region ?_ | refine z_p (kk := ?_)))
          refine Ops.call rfl rfl rfl rfl rfl hcl (fun v w2 hR2 => ?_)
          obtain ⟨os1, hO1, hS1, hK1⟩ := hR2
          have hB' := hB.all (bs' := 40) hS1 hK1 (by omega)
          (repeat (first | with_reducible refine Ops.nil ?_ | with_reducible refine W.region ?_ | refine z_p (kk := ?_) | refine z_a (kk := ?_) | with_reducible refine W.endb ?_))
          exact W.endl ⟨_, _, ⟨⟨40, os1, rfl, rfl, hO1, .inr (.inl ⟨rfl, hB'⟩)⟩, by omega⟩, (by repeat (first | exact trivial | refine And.intro rfl ?_))⟩
      · (repeat (first | with_reducible refine W.seq ?_ | with_reducible refine Ops.nil ?_ | with_reducible refine W.region ?_ | refine z_p (kk := ?_)))
        refine W.condF rfl (by first | rfl | assumption | (simp only [bnf] <;> omega) | (simp only [*, bnf]; done) | fail) ?_
        (repeat (first | with_reducible refine W.seq ?_ | with_reducible refine Ops.nil ?_ | with_reducible refine W.region ?_ | refine z_p (kk := ?_) | refine z_a (kk := ?_) | refine W.exit rfl ?_))
        refine W.condF rfl (by first | rfl | assumption | (simp only [bnf] <;> omega) | (simp only [*, bnf]; done) | fail) ?_
        (repeat (first | with_reducible refine Ops.nil ?_ | with_reducible refine W.region ?_ | refine z_p (kk := ?_) | refine z_a (kk := ?_) | with_reducible refine W.skip ?_ | with_reducible refine W.endb ?_))
        exact W.endl ⟨_, _, ⟨⟨40, os, rfl, rfl, hO, .inr (.inl ⟨rfl, hB⟩)⟩, by omega⟩, (by repeat (first | exact trivial | refine And.intro rfl ?_))⟩
    · have hol := hB.seg.len
      have hcl := symMerge_c (K := K) (cv := cv) hvf hfm 61 (a := 0) (m := 40) (b := n) (by omega) hO hGs (by omega) (by omega) (by omega) (by omega) (fun p q h1 h2 h3 h4 => by
        obtain ⟨y, z, y1, y2, y3, y4⟩ := hB.ord (show p < n by omega) (show q < n by omega) (by omega)
        rw [y3, y4]; exact hcc y z y1 y2) (fun p q h1 h2 h3 => hB.srt p q h2 (by omega) (by omega)) (fun p q h1 h2 h3 => hB.srt p q h2 (by omega) (by omega))
      (repeat (first | with_reducible refine W.seq ?_ | with_reducible refine Ops.nil ?_ | with_reducible refine W.region ?_ | refine z_p (kk := ?_)))
      refine W.condT rfl (by first | rfl | assumption | (simp only [bnf] <;> omega) | (simp only [*, bnf]; done) | fail) ?_
      (repeat (first | with_reducible refine W.seq ?_ | with_reducible refine Ops.nil ?_ | with_reducible refine W.region ?_ | refine z_p (kk := ?_) | refine z_a (kk := ?_) | with_reducible refine W.skip ?_ | with_reducible refine W.block ?_))
      refine W.loop (fun z ρ w2 => z = 0 ∧ ρ = [(0, .slice A os0.length c), (1, .int .i64 n), (2, vf), (6, .int .i64 40), (7, .int .i64 0), (8, .int .i64 80)] ∧ w2 = w1)
        ⟨_, _, ⟨rfl, rfl, rfl⟩, (by repeat (first | exact trivial | refine And.intro rfl ?_))⟩ ?_
      rintro z ρ w2 ⟨rfl, rfl, rfl⟩
      (repeat (first | with_reducible refine W.seq ?_ | with_reducible refine Ops.nil ?_ | with_reducible refine W.region ?_ | refine z_p (kk := ?_)))
      refine W.condF rfl (by first | rfl | assumption | (simp only [bnf] <;> omega) | (simp only [*, bnf]; done) | fail) ?_
      (repeat (first | with_reducible refine W.seq ?_ | with_reducible refine Ops.nil ?_ | with_reducible refine W.region ?_ | refine z_p (kk := ?_) | refine z_a (kk := ?_) | refine W.exit rfl ?_))
      refine W.condT rfl (by first | rfl | assumption | (simp only [bnf] <;> omega) | (simp only [*, bnf]; done) | fail) ?_
      (repeat (first | with_reducible refine W.region ?_ | refine z_p (kk := ?_)))
      refine Ops.call rfl rfl rfl rfl rfl hcl (fun v w2 hR2 => ?_)
      obtain ⟨os1, hO1, hS1, hK1⟩ := hR2
      have hB' := hB.all (bs' := 80) hS1 hK1 (by omega)
      (repeat (first | with_reducible refine Ops.nil ?_ | with_reducible refine W.region ?_ | refine z_p (kk := ?_) | refine z_a (kk := ?_) | with_reducible refine W.endb ?_))
      exact W.endl ⟨_, _, ⟨⟨80, os1, rfl, rfl, hO1, .inr (.inr ⟨rfl, hB'⟩)⟩, by omega⟩, (by repeat (first | exact trivial | refine And.intro rfl ?_))⟩
    · omega
  · have hfin : SegP 0 n os0 os ∧ SortK K os 0 n := by
      rcases hB with ⟨rfl, hB⟩ | ⟨rfl, hB⟩ | ⟨rfl, hB⟩
      · exact ⟨hB.seg, hB.sorted (by omega)⟩
      · exact ⟨hB.seg, hB.sorted (by omega)⟩
      · exact ⟨hB.seg, hB.sorted (by omega)⟩
    (repeat (first | with_reducible refine W.seq ?_ | with_reducible refine Ops.nil ?_ | with_reducible refine W.region ?_ | refine z_p (kk := ?_)))
    refine W.condF rfl (by first | rfl | assumption | (simp only [bnf] <;> omega) | (simp only [*, bnf]; done) | fail) ?_
    (repeat (first | refine W.exit rfl ?_))
    exact W.fend rfl ⟨os, hO, hfin⟩
theorem sortStable_c {G : World → Prop} {wB w : World} {ov vf : Value} {os0 : List Int} {fc : Nat} {first cap : List Value} {cv : Int → Int → Int} {K : Int → Int} (hO : OH G wB w ov os0) (hGs : Gst G ov) (hl : os0.length < 60) (hvf : vf = .func (.func fc) first.toArray cap.toArray) (hfm : memB (Fns.L Try.prog) fc = true)
    (hcc : ∀ p q : Nat, p < q → q < os0.length → Cmp G wB fc first cap cv K (os0.getD p 0) (os0.getD q 0)) :
    Calls Try.prog 76 #[ov, vf] w (Ret fun r w' => ∃ os, OH G wB w' ov os ∧ SegP 0 os0.length os0 os ∧ SortK K os 0 os0.length) := by
  obtain ⟨A, c, rfl⟩ := hO.sh
  refine calls_W (vs := [_, _]) Try.func76 rfl (by kernel_rfl) rfl ?_
  (repeat (first | with_reducible refine W.region ?_ | refine z_p (kk := ?_) | refine z_l (kk := ?_)))
  refine Ops.call rfl rfl rfl rfl rfl (stable_c hO hGs rfl hl hvf hfm hcc) (fun v w2 hR2 => ?_)
  (repeat (first | with_reducible refine Ops.nil ?_))
  exact W.fend rfl hR2
end Go.Proofs.Ytehjmakiljhjdaa
namespace Go.Proofs.Ytehjmakiljhjdaa
open Go Go.RowKit Go.Proofs.Ytehjmakiljhjdaa.VW
attribute [local irreducible] W Ops OrdA VW.Ord OrdX
/-- The cost of a pair. -/
def ceA (c : List (List Int)) (z : Int) : Int := (row c (z / 7)).getD (z % 7).toNat 0
def prI (c : List (List Int)) (z : Int) : Prop := (0 ≤ z / 7 ∧ z / 7 < c.length) ∧ 0 ≤ z % 7 ∧ z % 7 < c.length
set_option maxHeartbeats 2000000 in
theorem Greedy1_c {w : World} {b1 : Nat} {cv : Value} {c : List (List Int)} {y x : Int} (hB : Blk w b1 #[cv] 22) (hM : RowsM w cv c) (hC : Cst c) (hy : prI c y) (hx : prI c x) :
    Calls Try.prog 77 #[el y, el x, .pointer (some ⟨b1, 0, none⟩)] w (Ret fun r w' => r = .int .i64 (cmI (ceA c y) (ceA c x)) ∧ Below w.heap.size w w') := by
  obtain ⟨hy1, hy2⟩ := hy
  obtain ⟨hx1, hx2⟩ := hx
  obtain ⟨Ac, cc, rfl⟩ := hM.sl
  have rl : ∀ z : Int, 0 ≤ z → z < c.length → ((row c z).length : Int) = c.length := fun z h0 h1 => by
    have := hC.len z.toNat (by omega)
    unfold row
    omega
  have ry := rl (y / 7) hy1.1 hy1.2
  have rx := rl (x / 7) hx1.1 hx1.2
  refine calls_W (vs := [_, _, _]) Try.func77 rfl (by kernel_rfl) rfl ?_
  (repeat (first | with_reducible refine W.seq ?_ | with_reducible refine W.region ?_))
  refine Ops.box rfl rfl rfl rfl (fun w1 b3 hM3 => ?_)
  refine Ops.box rfl rfl rfl rfl (fun w2 b4 hM4 => ?_)
  have B3 : Blk w2 b3 #[.int .i64 (y / 7), .int .i64 (y % 7)] 37 := Blk.kp (show Blk w1 b3 _ 37 from hM3.at_) hM4.kp (fun e => e)
  have B4 : Blk w2 b4 #[.int .i64 (x / 7), .int .i64 (x % 7)] 37 := hM4.at_
  have hb2 : Below w.heap.size w w2 := Below.via (Mk.bel hM3) (Mk.bel hM4)
  have B1 : Blk w2 b1 #[.slice Ac c.length cc] 22 := hB.kp (Kp.of_below (S := fun _ => False) hb2) (fun e => e)
  have hM2 := hM.below hb2
  (repeat (first | with_reducible refine W.seq ?_ | with_reducible refine Ops.nil ?_ | refine z_p (kk := ?_)))
  refine W.ordA 99 [(0, 2), (1, 1), (2, 2), (3, 1), (4, 2), (5, 1), (6, 2), (7, 1), (8, 2), (9, 2), (10, 1), (11, 2), (12, 1), (13, 2), (14, 1), (15, 2), (16, 1), (17, 2), (18, 2), (19, 1)] rfl (by kernel_rfl) rfl (by kernel_rfl) (fun _ _ _ h => h) ?_
  (repeat (first | refine x_D (kk := ?_)))
  refine OrdA.pure rfl rfl rfl rfl (fun _ => EV.idxP rfl rfl rfl rfl rfl (by decide) (by decide)) ?_
  (repeat (first | refine x_r (kk := fun _ _ _ _ => ?_) | refine x_D (kk := ?_)))
  refine OrdA.pure rfl rfl rfl rfl (fun _ => EV.idxP rfl rfl rfl rfl rfl (by decide) (by decide)) ?_
  (repeat (first | refine x_K (kk := fun _ => ?_) | refine x_D (kk := ?_)))
  refine OrdA.pure rfl rfl rfl rfl (fun _ => EV.idxP rfl rfl rfl rfl rfl (by decide) (by decide)) ?_
  (repeat (first | refine x_r (kk := fun _ _ _ _ => ?_) | refine x_D (kk := ?_)))
  refine OrdA.pure rfl rfl rfl rfl (fun _ => EV.idxP rfl rfl rfl rfl rfl (by decide) (by decide)) ?_
  (repeat (first | refine x_K (kk := fun _ => ?_) | refine x_D (kk := ?_)))
  refine OrdA.call rfl rfl rfl rfl rfl rfl rfl (fun w' hw' => Calls.same hw' (cmp_c _ _ _)) ?_
  (repeat (first | refine x_p (kk := ?_)))
  refine OrdA.nil (fun w3 hb3 => ?_)
  skip
  exact W.fret rfl ⟨rfl, Below.via hb2 hb3⟩
end Go.Proofs.Ytehjmakiljhjdaa
