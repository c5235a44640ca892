/- A part of the walk: what this seat's statements share. -/
import Derived.Test.YtdiljpnfochndaaZG8
import Derived.Test.YtdiljpnfochndaaZG3
import Derived.Laws.CopyRow
import Derived.RangeFuncCalls
import Derived.OrdersIn
import Derived.TacticsIn
import Derived.Test.YtdiljpnfochndaaZG2
set_option linter.unusedVariables false
set_option linter.unusedSimpArgs false
set_option linter.unusedSectionVars false
/- Two sorted parts that are merged by exchanges. -/
namespace Go.Proofs.Ytdiljpnfochndaa.HP
/-- The number at place a has gone up to place k. -/
structure MvU (a k : Nat) (os os' : List Int) : Prop where
  seg : SegP a (k + 1) os os'
  low : ∀ x : Nat, a ≤ x → x < k → os'.getD x 0 = os.getD (x + 1) 0
  cur : os'.getD k 0 = os.getD a 0
  ak : a ≤ k
theorem MvU.start (a : Nat) (os : List Int) : MvU a a os os := ⟨SegP.refl _ _ _, fun x h1 h2 => by omega, rfl, Nat.le_refl _⟩
theorem MvU.step {a k : Nat} {os os' : List Int} (h : MvU a k os os') (hk : k + 1 < os.length) : MvU a (k + 1) os (swp os' k (k + 1)) := by
  have hl := h.seg.len
  have ak := h.ak
  have g : ∀ p : Nat, (swp os' k (k + 1)).getD p 0 = if p = k + 1 then os'.getD k 0 else if p = k then os'.getD (k + 1) 0 else os'.getD p 0 := fun p => swp_getD (by omega) (by omega)
  refine ⟨(h.seg.wide (Nat.le_refl _) (by omega)).trans (swp_seg (by omega) (by omega) (by omega) (by omega) (by omega) (by omega)), fun x h1 h2 => ?_, ?_, by omega⟩
  · rw [g, if_neg (by omega)]
    by_cases e : x = k
    · rw [if_pos e, h.seg.out _ (by omega), e]
    · rw [if_neg e]; exact h.low x h1 (by omega)
  · rw [g, if_pos rfl]; exact h.cur
/-- The number at place m has gone down to place k. -/
structure MvD (m k : Nat) (os os' : List Int) : Prop where
  seg : SegP k (m + 1) os os'
  upp : ∀ x : Nat, k < x → x ≤ m → os'.getD x 0 = os.getD (x - 1) 0
  cur : os'.getD k 0 = os.getD m 0
  km : k ≤ m
theorem MvD.start (m : Nat) (os : List Int) : MvD m m os os := ⟨SegP.refl _ _ _, fun x h1 h2 => by omega, rfl, Nat.le_refl _⟩
theorem MvD.step {m k : Nat} {os os' : List Int} (h : MvD m (k + 1) os os') (hm : m < os.length) : MvD m k os (swp os' (k + 1) k) := by
  have hl := h.seg.len
  have km := h.km
  have g : ∀ p : Nat, (swp os' (k + 1) k).getD p 0 = if p = k then os'.getD (k + 1) 0 else if p = k + 1 then os'.getD k 0 else os'.getD p 0 := fun p => swp_getD (by omega) (by omega)
  refine ⟨(h.seg.wide (by omega) (Nat.le_refl _)).trans (swp_seg (by omega) (by omega) (by omega) (by omega) (by omega) (by omega)), fun x h1 h2 => ?_, ?_, by omega⟩
  · rw [g, if_neg (by omega)]
    by_cases e : x = k + 1
    · rw [if_pos e, h.seg.out _ (by omega)]; congr 1; omega
    · rw [if_neg e]; exact h.upp x (by omega) h2
  · rw [g, if_pos rfl]; exact h.cur
/-- The search of the place of the first number, alone in its part. -/
structure LoS (K : Int → Int) (os : List Int) (a m b i j : Nat) : Prop where
  mi : m ≤ i
  ij : i ≤ j
  jb : j ≤ b
  lo : ∀ x : Nat, m ≤ x → x < i → K (os.getD x 0) < K (os.getD a 0)
  hi : ∀ x : Nat, j ≤ x → x < b → K (os.getD a 0) < K (os.getD x 0)
theorem LoS.up {K : Int → Int} {os : List Int} {a m b i j h : Nat} (s : LoS K os a m b i j) (hs : SortK K os m b) (h1 : i ≤ h) (h2 : h < j) (hk : K (os.getD h 0) < K (os.getD a 0)) : LoS K os a m b (h + 1) j := by
  have := s.mi; have := s.jb
  refine ⟨by omega, by omega, s.jb, fun x h3 h4 => ?_, s.hi⟩
  by_cases e : x = h
  · rw [e]; exact hk
  · exact Int.lt_trans (hs x h h3 (by omega) (by omega)) hk
theorem LoS.down {K : Int → Int} {os : List Int} {a m b i j h : Nat} (s : LoS K os a m b i j) (hs : SortK K os m b) (h1 : i ≤ h) (h2 : h < j) (hk : K (os.getD a 0) < K (os.getD h 0)) : LoS K os a m b i h := by
  have := s.mi; have := s.jb
  refine ⟨s.mi, h1, by omega, s.lo, fun x h3 h4 => ?_⟩
  by_cases e : x = h
  · rw [e]; exact hk
  · exact Int.lt_trans hk (hs h x (by omega) (by omega) h4)
theorem LoS.done {K : Int → Int} {os os' : List Int} {a m b i : Nat} (s : LoS K os a m b i i) (hm : m = a + 1) (hs : SortK K os m b) (mv : MvU a (i - 1) os os') : SegP a b os os' ∧ SortK K os' a b := by
  have := s.mi; have := s.jb
  refine ⟨mv.seg.wide (Nat.le_refl _) (by omega), fun p q h1 h2 h3 => ?_⟩
  have ol : ∀ x : Nat, i ≤ x → os'.getD x 0 = os.getD x 0 := fun x h => mv.seg.out x (by omega)
  by_cases e1 : q < i - 1
  · rw [mv.low p h1 (by omega), mv.low q (by omega) e1]; exact hs _ _ (by omega) (by omega) (by omega)
  · by_cases e2 : q = i - 1
    · rw [e2, mv.cur, mv.low p h1 (by omega)]; exact s.lo _ (by omega) (by omega)
    · rw [ol q (by omega)]
      by_cases e3 : p < i - 1
      · rw [mv.low p h1 e3]; exact hs _ _ (by omega) (by omega) (by omega)
      · by_cases e4 : p = i - 1
        · rw [e4, mv.cur]; exact s.hi q (by omega) h3
        · rw [ol p (by omega)]; exact hs p q (by omega) h2 h3
/-- The search of the place of the last number, alone in its part. -/
structure HiS (K : Int → Int) (os : List Int) (a m i j : Nat) : Prop where
  ai : a ≤ i
  ij : i ≤ j
  jm : j ≤ m
  lo : ∀ x : Nat, a ≤ x → x < i → K (os.getD x 0) < K (os.getD m 0)
  hi : ∀ x : Nat, j ≤ x → x < m → K (os.getD m 0) < K (os.getD x 0)
theorem HiS.up {K : Int → Int} {os : List Int} {a m i j h : Nat} (s : HiS K os a m i j) (hs : SortK K os a m) (h1 : i ≤ h) (h2 : h < j) (hk : K (os.getD h 0) < K (os.getD m 0)) : HiS K os a m (h + 1) j := by
  have := s.ai; have := s.jm
  refine ⟨by omega, by omega, s.jm, fun x h3 h4 => ?_, s.hi⟩
  by_cases e : x = h
  · rw [e]; exact hk
  · exact Int.lt_trans (hs x h h3 (by omega) (by omega)) hk
theorem HiS.down {K : Int → Int} {os : List Int} {a m i j h : Nat} (s : HiS K os a m i j) (hs : SortK K os a m) (h1 : i ≤ h) (h2 : h < j) (hk : K (os.getD m 0) < K (os.getD h 0)) : HiS K os a m i h := by
  have := s.ai; have := s.jm
  refine ⟨s.ai, h1, by omega, s.lo, fun x h3 h4 => ?_⟩
  by_cases e : x = h
  · rw [e]; exact hk
  · exact Int.lt_trans hk (hs h x (by omega) (by omega) h4)
theorem HiS.done {K : Int → Int} {os os' : List Int} {a m i : Nat} (s : HiS K os a m i i) (hs : SortK K os a m) (mv : MvD m i os os') : SegP a (m + 1) os os' ∧ SortK K os' a (m + 1) := by
  have := s.ai; have := s.jm
  refine ⟨mv.seg.wide (by omega) (Nat.le_refl _), fun p q h1 h2 h3 => ?_⟩
  have ol : ∀ x : Nat, x < i → os'.getD x 0 = os.getD x 0 := fun x h => mv.seg.out x (by omega)
  by_cases e1 : q < i
  · rw [ol p (by omega), ol q e1]; exact hs _ _ (by omega) (by omega) (by omega)
  · by_cases e2 : q = i
    · rw [e2, mv.cur, ol p (by omega)]; exact s.lo _ (by omega) (by omega)
    · rw [mv.upp q (by omega) (by omega)]
      by_cases e3 : p < i
      · rw [ol p e3]; exact hs _ _ (by omega) (by omega) (by omega)
      · by_cases e4 : p = i
        · rw [e4, mv.cur]; exact s.hi _ (by omega) (by omega)
        · rw [mv.upp p (by omega) (by omega)]; exact hs _ _ (by omega) (by omega) (by omega)
/-- The search of the place at which both parts are cut. -/
structure MiS (K : Int → Int) (os : List Int) (a m b i j : Nat) : Prop where
  ij : i ≤ j
  rng : (((a + b) / 2 < m ∧ (a + b) / 2 + m ≤ i + b ∧ j ≤ (a + b) / 2) ∨ (m ≤ (a + b) / 2 ∧ a ≤ i ∧ j ≤ m))
  lo : ((a + b) / 2 < m ∧ i + b = (a + b) / 2 + m) ∨ (m ≤ (a + b) / 2 ∧ i = a) ∨ (1 ≤ i ∧ K (os.getD (i - 1) 0) < K (os.getD ((a + b) / 2 + m - i) 0))
  hi : ((a + b) / 2 < m ∧ j = (a + b) / 2) ∨ (m ≤ (a + b) / 2 ∧ j = m) ∨ K (os.getD ((a + b) / 2 + m - 1 - j) 0) < K (os.getD j 0)
theorem MiS.up {K : Int → Int} {os : List Int} {a m b i j h : Nat} (s : MiS K os a m b i j) (h1 : i ≤ h) (h2 : h < j) (hk : K (os.getD h 0) < K (os.getD ((a + b) / 2 + m - 1 - h) 0)) : MiS K os a m b (h + 1) j := by
  have rng := s.rng
  refine ⟨by omega, by omega, .inr (.inr ⟨by omega, ?_⟩), s.hi⟩
  rw [show h + 1 - 1 = h by omega, show (a + b) / 2 + m - (h + 1) = (a + b) / 2 + m - 1 - h by omega]; exact hk
theorem MiS.down {K : Int → Int} {os : List Int} {a m b i j h : Nat} (s : MiS K os a m b i j) (h1 : i ≤ h) (h2 : h < j) (hk : K (os.getD ((a + b) / 2 + m - 1 - h) 0) < K (os.getD h 0)) : MiS K os a m b i h := by
  have rng := s.rng
  exact ⟨h1, by omega, s.lo, .inr (.inr hk)⟩
/-- What the rotation between both cuts leaves. -/
structure Cut (K : Int → Int) (a b mid s : Nat) (e : Nat) (os : List Int) : Prop where
  as_ : a ≤ s
  sm : s ≤ mid
  me : mid ≤ e
  eb : e ≤ b
  s1 : SortK K os a s
  s2 : SortK K os s mid
  s3 : SortK K os mid e
  s4 : SortK K os e b
  sep : ∀ p q : Nat, a ≤ p → p < mid → mid ≤ q → q < b → K (os.getD p 0) < K (os.getD q 0)
theorem MiS.cut {K : Int → Int} {os ns : List Int} {a m b s : Nat} (h : MiS K os a m b s s) (ham : a < m) (hmb : m < b) (h1 : SortK K os a m) (h2 : SortK K os m b)
    (hT : ∀ x : Nat, a ≤ x → x < b → ns.getD x 0 = if x < s then os.getD x 0 else if x < (a + b) / 2 then os.getD (x + (m - s)) 0 else if x < (a + b) / 2 + m - s then os.getD (x - ((a + b) / 2 - s)) 0 else os.getD x 0) :
    Cut K a b ((a + b) / 2) s ((a + b) / 2 + m - s) ns ∧ (∀ p : Nat, a ≤ p → p < s → ∃ p' : Nat, a ≤ p' ∧ p' < m ∧ ns.getD p 0 = os.getD p' 0) ∧ (∀ p : Nat, s ≤ p → p < (a + b) / 2 → ∃ p' : Nat, m ≤ p' ∧ p' < b ∧ ns.getD p 0 = os.getD p' 0)
      ∧ (∀ p : Nat, (a + b) / 2 ≤ p → p < (a + b) / 2 + m - s → ∃ p' : Nat, a ≤ p' ∧ p' < m ∧ ns.getD p 0 = os.getD p' 0) ∧ (∀ p : Nat, (a + b) / 2 + m - s ≤ p → p < b → ∃ p' : Nat, m ≤ p' ∧ p' < b ∧ ns.getD p 0 = os.getD p' 0) := by
  have rng := h.rng; have lo := h.lo; have hi := h.hi
  generalize hmid : (a + b) / 2 = mid at *
  have hsm : s ≤ mid := by omega
  have hsm' : s ≤ m := by omega
  have t1 : ∀ x : Nat, a ≤ x → x < s → ns.getD x 0 = os.getD x 0 := fun x e1 e2 => by rw [hT x e1 (by omega), if_pos e2]
  have t2 : ∀ x : Nat, s ≤ x → x < mid → ns.getD x 0 = os.getD (x + (m - s)) 0 := fun x e1 e2 => by rw [hT x (by omega) (by omega), if_neg (by omega), if_pos e2]
  have t3 : ∀ x : Nat, mid ≤ x → x < mid + m - s → ns.getD x 0 = os.getD (x - (mid - s)) 0 := fun x e1 e2 => by rw [hT x (by omega) (by omega), if_neg (by omega), if_neg (by omega), if_pos e2]
  have t4 : ∀ x : Nat, mid + m - s ≤ x → x < b → ns.getD x 0 = os.getD x 0 := fun x e1 e2 => by rw [hT x (by omega) (by omega), if_neg (by omega), if_neg (by omega), if_neg (by omega)]
  -- a before s, end and behind
  have x1 : ∀ p q : Nat, a ≤ p → p < s → mid + m - s ≤ q → q < b → K (os.getD p 0) < K (os.getD q 0) := fun p q e1 e2 e3 e4 => by
    have : 1 ≤ s ∧ K (os.getD (s - 1) 0) < K (os.getD (mid + m - s) 0) := by
      rcases lo with l | l | l
      · omega
      · omega
      · exact l
    have y1 : K (os.getD p 0) ≤ K (os.getD (s - 1) 0) := by
      by_cases e : p = s - 1
      · rw [e]; exact Int.le_refl _
      · exact Int.le_of_lt (h1 p (s - 1) e1 (by omega) (by omega))
    have y2 : K (os.getD (mid + m - s) 0) ≤ K (os.getD q 0) := by
      by_cases e : q = mid + m - s
      · rw [e]; exact Int.le_refl _
      · exact Int.le_of_lt (h2 (mid + m - s) q (by omega) (by omega) (by omega))
    omega
  have x2 : ∀ p q : Nat, m ≤ p → p < mid + m - s → s ≤ q → q < m → K (os.getD p 0) < K (os.getD q 0) := fun p q e1 e2 e3 e4 => by
    have : K (os.getD (mid + m - 1 - s) 0) < K (os.getD s 0) := by
      rcases hi with l | l | l
      · omega
      · omega
      · exact l
    have y1 : K (os.getD p 0) ≤ K (os.getD (mid + m - 1 - s) 0) := by
      by_cases e : p = mid + m - 1 - s
      · rw [e]; exact Int.le_refl _
      · exact Int.le_of_lt (h2 p (mid + m - 1 - s) e1 (by omega) (by omega))
    have y2 : K (os.getD s 0) ≤ K (os.getD q 0) := by
      by_cases e : q = s
      · rw [e]; exact Int.le_refl _
      · exact Int.le_of_lt (h1 s q (by omega) (by omega) (by omega))
    omega
  refine ⟨⟨by omega, hsm, by omega, by omega, fun p q e1 e2 e3 => ?_, fun p q e1 e2 e3 => ?_, fun p q e1 e2 e3 => ?_, fun p q e1 e2 e3 => ?_, fun p q e1 e2 e3 e4 => ?_⟩,
    fun p e1 e2 => ⟨p, e1, by omega, t1 p e1 e2⟩, fun p e1 e2 => ⟨_, by omega, by omega, t2 p e1 e2⟩, fun p e1 e2 => ⟨_, by omega, by omega, t3 p e1 e2⟩, fun p e1 e2 => ⟨p, by omega, e2, t4 p e1 e2⟩⟩
  · rw [t1 p e1 (by omega), t1 q (by omega) e3]; exact h1 p q e1 e2 (by omega)
  · rw [t2 p e1 (by omega), t2 q (by omega) e3]; exact h2 _ _ (by omega) (by omega) (by omega)
  · rw [t3 p e1 (by omega), t3 q (by omega) e3]; exact h1 _ _ (by omega) (by omega) (by omega)
  · rw [t4 p e1 (by omega), t4 q (by omega) e3]; exact h2 p q (by omega) e2 e3
  · by_cases f1 : p < s
    · rw [t1 p e1 f1]
      by_cases f2 : q < mid + m - s
      · rw [t3 q e3 f2]; exact h1 _ _ e1 (by omega) (by omega)
      · rw [t4 q (by omega) e4]; exact x1 p q e1 f1 (by omega) e4
    · rw [t2 p (by omega) e2]
      by_cases f2 : q < mid + m - s
      · rw [t3 q e3 f2]; exact x2 _ _ (by omega) (by omega) (by omega) (by omega)
      · rw [t4 q (by omega) e4]; exact h2 _ _ (by omega) (by omega) e4
/-- Both halves sorted by themselves. -/
theorem Cut.done {K : Int → Int} {a b mid s e : Nat} {os x y : List Int} (h : Cut K a b mid s e os) (s1 : SegP a mid os x) (k1 : SortK K x a mid) (s2 : SegP mid b x y) (k2 : SortK K y mid b) : SegP a b os y ∧ SortK K y a b := by
  have := h.as_; have := h.sm; have := h.me; have := h.eb
  refine ⟨(s1.wide (Nat.le_refl _) (by omega)).trans (s2.wide (by omega) (Nat.le_refl _)), fun p q h1 h2 h3 => ?_⟩
  by_cases e1 : q < mid
  · rw [s2.out p (by omega), s2.out q (by omega)]; exact k1 p q h1 h2 e1
  · by_cases e2 : mid ≤ p
    · exact k2 p q e2 h2 h3
    · rw [s2.out p (by omega)]
      obtain ⟨p', p1, p2, ep⟩ := s1.mem p h1 (by omega)
      obtain ⟨q', q1, q2, eq⟩ := s2.mem q (by omega) h3
      rw [ep, eq, s1.out q' (by omega)]
      exact h.sep p' q' p1 p2 q1 q2
end Go.Proofs.Ytdiljpnfochndaa.HP
/- Blocks that are sorted by themselves. -/
namespace Go.Proofs.Ytdiljpnfochndaa.HP
structure Blk (K : Int → Int) (bs n : Nat) (os0 os : List Int) : Prop where
  seg : SegP 0 n os0 os
  org : ∀ x : Nat, x < n → ∃ y : Nat, y < n ∧ y / bs = x / bs ∧ os.getD x 0 = os0.getD y 0
  srt : ∀ p q : Nat, p < q → q < n → p / bs = q / bs → K (os.getD p 0) < K (os.getD q 0)
theorem Blk.start (K : Int → Int) (bs : Nat) (os : List Int) : Blk K bs 0 os os := ⟨SegP.refl _ _ _, fun x h => by omega, fun p q _ h => by omega⟩
theorem Blk.ins {K : Int → Int} {t b : Nat} {os0 os os' : List Int} (h : Blk K 20 (20 * t) os0 os) (hb : b ≤ 20 * t + 20) (hb' : 20 * t ≤ b) (s : SegP (20 * t) b os os') (k : SortK K os' (20 * t) b) : Blk K 20 b os0 os' := by
  refine ⟨(h.seg.wide (Nat.le_refl _) hb').trans (s.wide (by omega) (Nat.le_refl _)), fun x hx => ?_, fun p q h1 h2 h3 => ?_⟩
  · by_cases e : x < 20 * t
    · obtain ⟨y, y1, y2, y3⟩ := h.org x e
      exact ⟨y, by omega, y2, by rw [s.out x (by omega), y3]⟩
    · obtain ⟨y, y1, y2, y3⟩ := s.mem x (by omega) hx
      exact ⟨y, y2, by omega, by rw [y3, h.seg.out y (by omega)]⟩
  · by_cases e : q < 20 * t
    · rw [s.out p (by omega), s.out q (by omega)]; exact h.srt p q h1 e h3
    · exact k p q (by omega) h1 h2
/-- Elements of two blocks stood in this order. -/
theorem Blk.ord {K : Int → Int} {bs n : Nat} {os0 os : List Int} (h : Blk K bs n os0 os) {p q : Nat} (hp : p < n) (hq : q < n) (hpq : p / bs < q / bs) : ∃ y z : Nat, y < z ∧ z < n ∧ os.getD p 0 = os0.getD y 0 ∧ os.getD q 0 = os0.getD z 0 := by
  obtain ⟨y, y1, y2, y3⟩ := h.org p hp
  obtain ⟨z, z1, z2, z3⟩ := h.org q hq
  refine ⟨y, z, ?_, z1, y3, z3⟩
  rcases Nat.lt_or_ge y z with e | e
  · exact e
  · have := Nat.div_le_div_right (c := bs) e
    omega
theorem Blk.all {K : Int → Int} {bs bs' n : Nat} {os0 os os' : List Int} (h : Blk K bs n os0 os) (s : SegP 0 n os os') (k : SortK K os' 0 n) (hn : n ≤ bs') : Blk K bs' n os0 os' := by
  refine ⟨h.seg.trans s, fun x hx => ?_, fun p q h1 h2 _ => k p q (by omega) h1 h2⟩
  obtain ⟨y, y1, y2, y3⟩ := (h.seg.trans s).mem x (by omega) hx
  exact ⟨y, y2, by rw [Nat.div_eq_of_lt (by omega), Nat.div_eq_of_lt (by omega)], y3⟩
theorem Blk.half {K : Int → Int} {n : Nat} {os0 os os' : List Int} (h : Blk K 20 n os0 os) (s : SegP 0 40 os os') (k : SortK K os' 0 40) (hn : n < 60) (hn' : 40 ≤ n) : Blk K 40 n os0 os' := by
  refine ⟨h.seg.trans (s.wide (Nat.le_refl _) hn'), fun x hx => ?_, fun p q h1 h2 h3 => ?_⟩
  · by_cases e : x < 40
    · obtain ⟨y, y1, y2, y3⟩ := s.mem x (by omega) e
      obtain ⟨z, z1, z2, z3⟩ := h.org y (by omega)
      exact ⟨z, z1, by omega, by rw [y3, z3]⟩
    · obtain ⟨z, z1, z2, z3⟩ := h.org x hx
      exact ⟨z, z1, by omega, by rw [s.out x (by omega), z3]⟩
  · by_cases e : q < 40
    · exact k p q (by omega) h1 e
    · rw [s.out p (by omega), s.out q (by omega)]; exact h.srt p q h1 h2 (by omega)
theorem Blk.skip {K : Int → Int} {n : Nat} {os0 os : List Int} {bs bs' : Nat} (h : Blk K bs n os0 os) (hn : n ≤ bs) (hn' : n ≤ bs') : Blk K bs' n os0 os :=
  ⟨h.seg, fun x hx => by
    obtain ⟨y, y1, y2, y3⟩ := h.org x hx
    exact ⟨y, y1, by rw [Nat.div_eq_of_lt (by omega), Nat.div_eq_of_lt (by omega)], y3⟩, fun p q h1 h2 h3 => h.srt p q h1 h2 (by rw [Nat.div_eq_of_lt (by omega), Nat.div_eq_of_lt (by omega)])⟩
theorem Blk.sorted {K : Int → Int} {n bs : Nat} {os0 os : List Int} (h : Blk K bs n os0 os) (hn : n ≤ bs) : SortK K os 0 n :=
  fun p q _ h2 h3 => h.srt p q h2 h3 (by rw [Nat.div_eq_of_lt (by omega), Nat.div_eq_of_lt (by omega)])
end Go.Proofs.Ytdiljpnfochndaa.HP
/- Insertion sort by numbers. -/
namespace Go.Proofs.Ytdiljpnfochndaa.HP
/-- Element i on its way down, at place j. -/
structure InsI (K : Int → Int) (os0 : List Int) (a i j : Nat) (os : List Int) : Prop where
  seg : SegP a (i + 1) os0 os
  cur : os.getD j 0 = os0.getD i 0
  aj : a ≤ j
  ji : j ≤ i
  srt : ∀ p q : Nat, a ≤ p → p < q → q < i + 1 → p ≠ j → q ≠ j → K (os.getD p 0) < K (os.getD q 0)
  up : ∀ q : Nat, j < q → q < i + 1 → K (os0.getD i 0) < K (os.getD q 0)
  old : ∀ p : Nat, a ≤ p → p < i + 1 → p ≠ j → ∃ q : Nat, a ≤ q ∧ q < i ∧ os.getD p 0 = os0.getD q 0
theorem InsI.start {K : Int → Int} {os0 os : List Int} {a i : Nat} (h : SegP a i os0 os) (hs : SortK K os a i) (ha : a ≤ i) : InsI K os0 a i i os :=
  ⟨h.wide (Nat.le_refl _) (by omega), h.out i (by omega), ha, Nat.le_refl _, fun p q h1 h2 h3 h4 h5 => hs p q h1 h2 (by omega), fun q h1 h2 => by omega, fun p h1 h2 h3 => h.mem p h1 (by omega)⟩
theorem InsI.step {K : Int → Int} {os0 os : List Int} {a i j : Nat} (h : InsI K os0 a i (j + 1) os) (hi : i < os0.length) (ha : a ≤ j) (hlt : K (os0.getD i 0) < K (os.getD j 0)) : InsI K os0 a i j (swp os (j + 1) j) := by
  have hl := h.seg.len
  have hji := h.ji
  have g : ∀ p : Nat, (swp os (j + 1) j).getD p 0 = if p = j then os.getD (j + 1) 0 else if p = j + 1 then os.getD j 0 else os.getD p 0 := fun p => swp_getD (by omega) (by omega)
  refine ⟨h.seg.trans (swp_seg (by omega) (by omega) (by omega) (by omega) (by omega) (by omega)), ?_, ha, by omega, fun p q h1 h2 h3 h4 h5 => ?_, fun q h1 h2 => ?_, fun p h1 h2 h3 => ?_⟩
  · rw [g, if_pos rfl, h.cur]
  · rw [g, g, if_neg h4, if_neg h5]
    by_cases e1 : p = j + 1
    · rw [if_pos e1, if_neg (by omega)]
      exact h.srt j q (by omega) (by omega) h3 (by omega) (by omega)
    · rw [if_neg e1]
      by_cases e2 : q = j + 1
      · rw [if_pos e2]; exact h.srt p j h1 (by omega) (by omega) (by omega) (by omega)
      · rw [if_neg e2]; exact h.srt p q h1 h2 h3 (by omega) (by omega)
  · rw [g, if_neg (by omega)]
    by_cases e : q = j + 1
    · rw [if_pos e]; exact hlt
    · rw [if_neg e]; exact h.up q (by omega) h2
  · rw [g, if_neg h3]
    by_cases e : p = j + 1
    · rw [if_pos e]; exact h.old j ha (by omega) (by omega)
    · rw [if_neg e]; exact h.old p h1 h2 (by omega)
theorem InsI.done {K : Int → Int} {os0 os : List Int} {a i j : Nat} (h : InsI K os0 a i j os) (hd : j = a ∨ ∃ m : Nat, j = m + 1 ∧ K (os.getD m 0) < K (os0.getD i 0)) : SortK K os a (i + 1) := by
  intro p q h1 h2 h3
  have hji := h.ji
  by_cases e1 : p = j
  · subst e1; rw [h.cur]; exact h.up q h2 h3
  · by_cases e2 : q = j
    · subst e2
      rw [h.cur]
      rcases hd with hd | ⟨m, hm, hk⟩
      · omega
      · by_cases e : p = m
        · subst e; exact hk
        · exact Int.lt_trans (h.srt p m h1 (by omega) (by omega) e1 (by omega)) hk
    · exact h.srt p q h1 h2 h3 e1 e2
end Go.Proofs.Ytdiljpnfochndaa.HP
/- Words that wrap and shift; copy into a slice of the call's own; x[k:], x[:k]. -/
namespace Go.Proofs.Ytdiljpnfochndaa.VW
open Go Go.RowKit
/-- What an operation on two whole numbers gives, whatever the kind. -/
def bw : BinOp → IntKind → Int → Int → Option Int
  | .add, k, a, b => some (k.wrap (a + b))
  | .sub, k, a, b => some (k.wrap (a - b))
  | .mul, k, a, b => some (k.wrap (a * b))
  | .and, k, a, b => some (k.wrap ((BitVec.ofInt k.bits a &&& BitVec.ofInt k.bits b).toNat))
  | .or, k, a, b => some (k.wrap ((BitVec.ofInt k.bits a ||| BitVec.ofInt k.bits b).toNat))
  | _, _, _, _ => none
def bsh : BinOp → IntKind → Int → Int → Option Int
  | .shl, k, a, b => if b < 0 then none else some (k.wrap (a * 2 ^ (min b.toNat k.bits)))
  | .shr, k, a, b => if b < 0 then none else some (a.fdiv (2 ^ (min b.toNat k.bits)))
  | _, _, _, _ => none
section
variable {P : Program} [hT : Tab P] {n : Nat} {ds : List Deferred} {Φ : Post} {k : List It} {ρ : E} {w : World} {all : Array Oper} {l : List Oper} {md : Option (List Oper)} {s : Nat} {F : World → Prop} {π : List (Nat × Nat)} {L : List Bool}
omit hT in
theorem EV.bw {o : Oper} {op : BinOp} {t t' : Nat} {x y : Operand} {kd : IntKind} {a b v : Int} (ho : o.op = .binOp op t x y t') (hx : ev ρ x = some (.int kd a)) (hy : ev ρ y = some (.int kd b)) (hv : VW.bw op kd a b = some v) : EV P n ρ w o (.int kd v) := by
  intro c hr
  simp only [execOp, ho, hr.ev hx, hr.ev hy]
  cases op <;> simp [VW.bw] at hv <;> subst hv <;> simp [eqGuard, binOp, Op.intArith, Op.intBits, go_sem] <;> rfl
omit hT in
theorem EV.bsh {o : Oper} {op : BinOp} {t t' : Nat} {x y : Operand} {kd kd' : IntKind} {a b v : Int} (ho : o.op = .binOp op t x y t') (hx : ev ρ x = some (.int kd a)) (hy : ev ρ y = some (.int kd' b)) (hv : VW.bsh op kd a b = some v) : EV P n ρ w o (.int kd v) := by
  intro c hr
  simp only [execOp, ho, hr.ev hx, hr.ev hy]
  cases op <;> simp [VW.bsh] at hv <;> (obtain ⟨h1, h2⟩ := hv; subst h2; simp [eqGuard, binOp, Op.shift, go_sem, Int.not_lt.2 h1])
/-- x[:h] -/
theorem EV.slH {o : Oper} {t e sz m c : Nat} {x y : Operand} {A : Option Addr} {h : Int} (ho : o.op = .slice t x none (some y) none) (ht : tyD P t = some (.slice e)) (hs : tyS P e = some sz) (hx : ev ρ x = some (.slice A m c)) (hy : ev ρ y = some (.int .i64 h)) (h0 : 0 ≤ h) (h1 : h ≤ c) : EV P n ρ w o (.slice A h.toNat c) := by
  intro a hr
  have e0 : A.map (fun p : Addr => p.add 0) = A := by cases A <;> simp [Addr.add]
  simp [execOp, ho, hr.ev hx, hr.ev hy, Instr.sliceAt, Instr.slice, Instr.sliceBounds, Instr.sliceBound, asIntOf, run_und (td_slice (tyD_ok ht)), run_sizeOf hs, h0, h1, e0]
/-- x[k:] of a slice of the call's own -/
theorem EV.slO {o : Oper} {t e g m c q : Nat} {x y : Operand} (ho : o.op = .slice t x (some y) none none) (ht : tyD P t = some (.slice e)) (hs : tyS P e = some 1) (hx : ev ρ x = some (.slice (some ⟨g, 0, none⟩) m c)) (hy : ev ρ y = some (.int .i64 (q : Int))) (h1 : q ≤ m) (h2 : q < c) (h3 : m ≤ c) : EV P n ρ w o (.slice (some ⟨g, q, none⟩) (m - q) (c - q)) := by
  intro a hr
  have hne : ¬ c = q := by omega
  have e0 : (⟨g, 0, none⟩ : Addr).add (q * 1) = ⟨g, q, none⟩ := by rw [add_lit]; simp
  have e1 : (⟨g, 0, none⟩ : Addr).add q = ⟨g, q, none⟩ := by rw [add_lit]; simp
  simp [execOp, ho, hr.ev hx, hr.ev hy, Instr.sliceAt, Instr.slice, Instr.sliceBounds, Instr.sliceBound, asIntOf, run_und (td_slice (tyD_ok ht)), run_sizeOf hs, h1, hne, e0, e1]
/-- copy into a slice of the call's own. -/
theorem Ops.cpO {α : Type} {enc : α → Value} {z : α} {w0 : World} {o : Oper} {d t t' e g off m c dl dc : Nat} {x y : Operand} {yv : Value} {os ys : List α} (ho : o.op = .call { callee := .builtin .copy, args := #[x, y], argTypes := #[t, t'] }) (hd : o.dst = some d) (hg : o.guard = none)
    (ht : tyD P t = some (.slice e)) (hs : tyS P e = some 1) (hx : ev ρ x = some (.slice (some ⟨g, off, none⟩) dl dc)) (hy : ev ρ y = some yv) (hO : OI e enc w0 w (.slice (some ⟨g, 0, none⟩) m c) os) (hS : Sl enc z w yv ys) (hp : 0 < ys.length) (hoff : off + dl = os.length) (h1 : ∀ u, (enc u).oneCell' = true)
    (hk : ∀ w', OI e enc w0 w' (.slice (some ⟨g, 0, none⟩) m c) (os.take off ++ ys.take dl ++ os.drop (off + Min.min ys.length dl)) → Kp (fun i => i = g) w w' → w'.heap.size = w.heap.size → Ops none P n ds all k Φ l ((d, .int .i64 (Min.min ys.length dl : Nat)) :: ρ) w') : Ops none P n ds all k Φ (o :: l) ρ w := by
  obtain ⟨hyl, Ay, cy, rfl, hcell⟩ := hS
  obtain ⟨ad, rfl, hcell2⟩ := hcell hp
  have hown := hO.own
  rcases hown.2 with ⟨h2, _⟩ | ⟨g', cap, cur, h2, _, hgb, hnc, hx2, hcs, ht'⟩
  · cases h2
  · cases h2
    obtain ⟨f, hi, h3⟩ := tyS_ok hs
    have hmin : ((ys.take dl).map enc).length = Nat.min ys.length dl := by simp [Nat.min_comm]
    have hsz : (P.info? e).map (·.size) = some 1 := by rw [hi]; simp [h3]
    have hcz : cur.size = c := by simpa using hcs
    have hoc : os.length ≤ c := hnc
    have hfit : off + ((ys.take dl).map enc).length ≤ cur.size := by rw [hmin, hcz]; have : Nat.min ys.length dl ≤ dl := Nat.min_le_right _ _; omega
    have hrun := run_copy_row (P := P) w t t' o.type e g off dl dc ad ys.length cy cur e ((ys.take dl).map enc) (td_slice (tyD_ok ht)) hsz hgb hmin (fun j v hj => by
      rw [List.getElem?_map, List.getElem?_take] at hj
      split at hj
      · rw [Option.map_eq_some_iff] at hj
        obtain ⟨u, hu, rfl⟩ := hj
        have hjl : j < ys.length := (List.getElem?_eq_some_iff.1 hu).1
        rw [hcell2 j hjl]
        simp [List.getD_eq_getElem?_getD, hu]
      · simp at hj) hfit (fun v hv => by obtain ⟨u, _, rfl⟩ := List.mem_map.1 hv; exact h1 u)
    have hlen : ((ys.take dl).map enc).length = Min.min ys.length dl := hmin
    have hkp : Kp (fun i => i = g) w (w.setRow g (cur.toList.take off ++ (ys.take dl).map enc ++ cur.toList.drop (off + ((ys.take dl).map enc).length)).toArray) :=
      ⟨rfl, rfl, rfl, by simp [World.setRow], fun i hi hn => setRow_other w g i _ (by omega)⟩
    have hle : (os.take off ++ ys.take dl ++ os.drop (off + Min.min ys.length dl)).length = os.length := by simp; omega
    refine Ops.val hd hg (fun a hr => ?_) (hk _ ⟨Below.put hO.bel hkp (fun i hi => by subst hi; exact hO.ge _ rfl), ?_, hO.ge⟩ hkp (by simp [World.setRow]))
    · simp [execOp, ho, resolve, invoke, builtin, hr.ev hx, hr.ev hy, hrun, Result.andThen, goInt, Nat.min_comm]
    · refine ⟨by simp, .inr ⟨g, c, _, by rw [hle], Nat.zero_le _, setRow_heap w g cur _ e _ hgb, by rw [hle]; exact hnc, hx2, ?_, ?_⟩⟩
      · rw [List.size_toArray]; simp [hcz] at *; omega
      · rw [hle]
        have hto : cur.toList.take (os.length * 1) = os.map enc := by simpa using ht'
        rw [Nat.mul_one] at hto ⊢
        have hol : os.length ≤ cur.toList.length := by simp [hcz]; omega
        rw [hlen, List.map_append, List.map_append]
        simp only [List.map_take, List.map_drop]
        rw [← hto]
        simp only [List.take_append, List.length_append, List.length_take, List.length_map]
        have e1 : Min.min off cur.toList.length = off := by omega
        rw [e1]
        congr 1
        · congr 1
          · rw [List.take_take, List.take_take]; congr 1; omega
          · rw [List.take_of_length_le (by simp; omega)]
        · rw [List.drop_take]
          congr 1
          omega
/-- A map's literal, entry by entry. -/
theorem Ops.ins {o : Oper} {t kt et r : Nat} {x y z : Operand} {i : Int} {f : Int → Bool} (ho : o.op = .insert t x y z) (hd : o.dst = none) (hg : o.guard = none)
    (ht : tyD P t = some (.map kt et)) (hkt : tyD P kt = some (.int .i64)) (hx : ev ρ x = some (.map (some r))) (hy : ev ρ y = some (.int .i64 i)) (hz : ev ρ z = some (.bool true)) (hm : MapB w r f)
    (hk : ∀ w', MapB w' r (fun k => f k || k == i) → Kp (fun i => i = r) w w' → w'.heap.size = w.heap.size → Ops none P n ds all k Φ l ρ w') : Ops none P n ds all k Φ (o :: l) ρ w := by
  obtain ⟨w', hrun, h1, h2, h3⟩ := run_put (x := i) ht hkt hm
  refine Ops.unit hg hd (fun a hr => ?_) (hk w' h1 h2 h3)
  simp [execOp, ho, hr.ev hx, hr.ev hy, hr.ev hz, hrun]
/-- A load out of a block that was told of earlier. -/
theorem z_D {o : Oper} {d t b q t' : Nat} {x : Operand} {cs : Array Value} {v : Value} {w0 : World} (ho : o.op = .load t x := by exact rfl) (hd : o.dst = some d := by exact rfl) (hg : o.guard = none := by exact rfl)
    (ht : tyAgg P t = some false := by exact rfl) (hx : ev ρ x = some (.pointer (some ⟨b, q, none⟩)) := by exact rfl) (hb : Blk w0 b cs t' := by assumption) (hbel : Below w0.heap.size w0 w := by first | assumption | exact Below.refl _ _) (hi : nth cs.toList q = some v := by exact rfl) (kk : Ops md P n ds all k Φ l ((d, v) :: ρ) w) : Ops md P n ds all k Φ (o :: l) ρ w :=
  Ops.ldB ho hd hg ht hx (hb.kp (Kp.of_below (S := fun _ => False) hbel) (fun e => e)) hi kk
theorem MapB.below {w w' : World} {b : Nat} {f : Int → Bool} (h : MapB w b f) (k : Below w.heap.size w w') : MapB w' b f := h.kp (Kp.of_below (S := fun _ => False) k) (fun e => e)
end
end Go.Proofs.Ytdiljpnfochndaa.VW
/- Within a fence: rounds of a range over a function, and functions that call yield. -/
namespace Go.Proofs.Ytdiljpnfochndaa.VW
open Go Go.RowKit
def Fw : Option Nat → Fence
  | none => Fence.wide
  | some l => Fence.wide.inRound l
theorem Fw_fn (r : Option Nat) (f : FuncId) : (Fw r).fn f := by cases r <;> exact trivial
theorem Fw_dep (r : Option Nat) : (Fw r).depth = none := by cases r <;> rfl
theorem Fw_calls (r : Option Nat) {m : Nat} {P : Program} {f : FuncId} {args : Array Value} {w : World} {R : Ending → World → Prop} (h : Calls P f args w R) : CallsIn (Fw r) m P f args w R := by
  cases r with
  | none => exact callsIn_wide.2 h
  | some l => exact (callsIn_wide.2 h).inRound l
theorem Fw_rows (r : Option Nat) {m : Nat} {P : Program} {row : String} {args : Array Value} {w : World} {R : Value → World → Prop} (h : Rows P row args w R) : RowsIn (Fw r) m P row args w R := by
  cases r with
  | none => exact fun c cs _ => let ⟨v, w', r, s⟩ := h c cs; ⟨v, w', r, stepsIn_wide.2 s⟩
  | some l => exact fun c cs _ => let ⟨v, w', r, s⟩ := h c cs; ⟨v, w', r, stepsIn_wide.2 s⟩
def noDefer (ops : List Oper) : Bool := ops.all fun o => match o.op with | .defer _ => false | _ => true
theorem noDefer_at {ops : List Oper} (h : noDefer ops = true) {o : Oper} (ho : o ∈ ops) (c : Call) : o.op ≠ .defer c := by
  intro e
  have := List.all_eq_true.1 h o ho
  rw [e] at this
  cases this
theorem opIn {r : Option Nat} {m : Nat} {P : Program} {o : Oper} {a : Act} {w : World} {K K' : Act → World → Prop} {Q Q' : Exit → Act → World → Prop} (hd : ∀ c, o.op ≠ .defer c) (hK : ∀ a w, K a w → K' a w) (hp : ∀ c a w, ¬ Q (.panic c) a w) (ho : ¬ LetsOut Q)
    (h : o.wp P a w K Q) : o.wpIn (Fw r) m P a w K' Q' := by
  refine ⟨fun f _ => Fw_fn r f, ?_⟩
  rw [Oper.semAt_eq _ _ _ hd]
  unfold Oper.wp at h
  generalize (execOp a.eval o).run P w = res at *
  have hdep : (Fw r).depth.isSome = true → 1 ≤ m := fun h => by rw [Fw_dep] at h; cases h
  cases res with
  | ok nx w' =>
    cases nx <;> simp only [Oper.upon] at h <;> simp only [Oper.uponIn]
    case value v => exact hK _ _ h
    case skip => exact hK _ _ h
    case defer d => exact hK _ _ h
    case enter f args =>
      refine ⟨hdep, Fw_calls r (h.mono fun e w'' he => ?_)⟩
      cases e with
      | returned v => exact hK _ _ he
      | panicked ch => exact (hp _ _ _ he).elim
      | outgrown => exact (ho he).elim
    case row rw args => exact ⟨hdep, Fw_rows r (h.mono fun v w'' hv => hK _ _ hv)⟩
  | halt x w' =>
    cases x <;> simp only [Oper.upon] at h
    exact (hp _ _ _ h).elim
section
variable {P : Program} {n : Nat} {ds : List Deferred} {ρ : E} {w : World} {r : Option Nat}
/-- A stretch of a region in the text's order. -/
theorem listIn {all : Array Oper} {Q Q' : Exit → Act → World → Prop} {rest : List Oper} (hp : ∀ c a w, ¬ Q (.panic c) a w) (ho : ¬ LetsOut Q) (hr : ∀ a w, Q .normal a w → wpListIn (Fw r) 0 P all Q' rest a w) :
    ∀ (pre : List Oper) (a : Act) (w : World), noDefer pre = true → wpList P all Q pre a w → wpListIn (Fw r) 0 P all Q' (pre ++ rest) a w
  | [], a, w, _, h => hr a w h
  | o :: l, a, w, hd, h => by
    have hd' : noDefer l = true := by unfold noDefer at *; simp only [List.all_cons, Bool.and_eq_true] at hd; exact hd.2
    have ih := fun a w => listIn hp ho hr l a w hd'
    show wpListIn (Fw r) 0 P all Q' (o :: (l ++ rest)) a w
    unfold wpList at h
    unfold wpListIn
    split
    · rename_i hw
      rw [if_pos hw] at h
      exact h.elim (fun h => opIn (noDefer_at hd (by simp)) ih hp ho h) (fun h => (ho h.2).elim)
    · rename_i hw
      rw [if_neg hw] at h
      exact ⟨fun f _ => Fw_fn r f, ih _ _ h⟩
theorem anyIn {all : Array Oper} {Q Q' : Exit → Act → World → Prop} (hp : ∀ c a w, ¬ Q (.panic c) a w) (ho : ¬ LetsOut Q) (hq : ∀ a w, Q .normal a w → Q' .normal a w) (hd : noDefer all.toList = true) :
    ∀ (m : Nat) (L : Array Bool) (a : Act) (w : World), wpAny P .any all Q m L a w → wpAnyIn (Fw r) 0 P .any all Q' m L a w
  | 0, L, a, w, h => ⟨h.1, hq _ _ h.2⟩
  | m + 1, L, a, w, h => by
    refine ⟨fun e => hq _ _ (h.1 e), fun i hi => ?_⟩
    have := h.2 i hi
    unfold wpOp at this
    unfold wpOpIn
    split
    · rename_i e; rw [e] at this; exact anyIn hp ho hq hd m _ _ _ this
    · rename_i o e
      rw [e] at this
      simp only at this
      split
      · rename_i hw
        rw [if_pos hw] at this
        rcases this with h | ⟨_, h⟩
        · refine opIn (noDefer_at hd ?_) (fun a w => anyIn hp ho hq hd m _ a w) hp ho h
          exact Array.mem_toList_iff.2 (Array.mem_of_getElem? e)
        · exact (ho h).elim
      · rename_i hw
        rw [if_neg hw] at this
        exact ⟨fun f _ => Fw_fn r f, anyIn hp ho hq hd m _ _ _ this⟩
def LI (n : Nat) (ds : List Deferred) (Q : Post) (e : Exit) (a : Act) (w : World) : Prop := ∃ ρ', Rep n a ρ' ∧ a.defers = ds ∧ Q e ρ' w
/-- A code's walk within a fence. -/
def Wi (r : Option Nat) (P : Program) (n : Nat) (ds : List Deferred) (c : Code) (Q : Post) (ρ : E) (w : World) : Prop :=
  ∀ a, Rep n a ρ → a.defers = ds → c.wpIn (Fw r) 0 P (LI n ds Q) a w
theorem Wi.mono {c : Code} {Q Q' : Post} (h : Wi r P n ds c Q ρ w) (hj : ∀ e ρ w, Q e ρ w → Q' e ρ w) : Wi r P n ds c Q' ρ w :=
  fun a hr hd => wpIn_mono (h a hr hd) fun e a w ⟨ρ', h1, h2, h3⟩ => ⟨ρ', h1, h2, hj _ _ _ h3⟩
theorem Wi.seq {x y : Code} {Q : Post} (h : Wi r P n ds x (fun e ρ w => match e with | .normal => Wi r P n ds y Q ρ w | e => Q e ρ w) ρ w) : Wi r P n ds (.seq x y) Q ρ w := by
  intro a hr hd
  refine wpIn_seq (wpIn_mono (h a hr hd) ?_)
  rintro e a w ⟨ρ', h1, h2, h3⟩
  cases e with
  | normal => exact h3 a h1 h2
  | _ => exact ⟨ρ', h1, h2, h3⟩
theorem Wi.skip {Q : Post} (h : Q .normal ρ w) : Wi r P n ds .skip Q ρ w := fun a hr hd => wpIn_skip ⟨ρ, hr, hd, h⟩
theorem Wi.exit {id : Nat} {Q : Post} (h : Q (.exit id) ρ w) : Wi r P n ds (.exit id) Q ρ w := fun a hr hd => wpIn_exit ⟨ρ, hr, hd, h⟩
theorem Wi.cond {c : Operand} {x y : Code} {t : Bool} {Q : Post} (hc : ev ρ c = some (.bool t)) (h1 : t = true → Wi r P n ds x Q ρ w) (h2 : t = false → Wi r P n ds y Q ρ w) : Wi r P n ds (.cond c x y) Q ρ w :=
  fun a hr hd => wpIn_cond_split (hr.ev hc) (fun e => h1 e a hr hd) (fun e => h2 e a hr hd)
theorem Wi.block {id : Nat} {c : Code} {Q : Post} (h : Wi r P n ds c (fun e ρ w => match e with | .exit i => if i = id then Q .normal ρ w else Q (.exit i) ρ w | e => Q e ρ w) ρ w) : Wi r P n ds (.block id c) Q ρ w := by
  intro a hr hd
  refine wpIn_block (wpIn_mono (h a hr hd) ?_)
  rintro e a w ⟨ρ', h1, h2, h3⟩
  cases e with
  | exit i =>
    have h3' : if i = id then Q .normal ρ' w else Q (.exit i) ρ' w := h3
    show if i = id then _ else _
    split
    · rename_i e; rw [if_pos e] at h3'; exact ⟨ρ', h1, h2, h3'⟩
    · rename_i e; rw [if_neg e] at h3'; exact ⟨ρ', h1, h2, h3'⟩
  | _ => exact ⟨ρ', h1, h2, h3⟩
theorem Wi.loop {c : Code} {Q : Post} (I : Nat → E → World → Prop) {m : Nat} (h0 : I m ρ w)
    (round : ∀ m ρ w, I m ρ w → Wi r P n ds c (fun e ρ1 w1 => match e with | .normal => ∃ m2 ρ2, (I m2 ρ2 w1 ∧ m2 < m) ∧ Sub ρ2 ρ1 | e => Q e ρ1 w1) ρ w) :
    Wi r P n ds (.loop c) Q ρ w := by
  intro a hr hd
  have key : ∀ m a w, (∃ ρ, Rep n a ρ ∧ a.defers = ds ∧ I m ρ w) → (Code.loop c).wpIn (Fw r) 0 P (LI n ds Q) a w := by
    intro m a w ha
    refine wpIn_loop (P := P) (fun a w => ∃ m ρ, Rep n a ρ ∧ a.defers = ds ∧ I m ρ w) (fun a w => Classical.epsilon fun m => (∃ ρ, Rep n a ρ ∧ a.defers = ds ∧ I m ρ w) ∧ ∀ m', (∃ ρ, Rep n a ρ ∧ a.defers = ds ∧ I m' ρ w) → m ≤ m') ⟨m, ha⟩ ?_
    rintro a w ⟨m1, hm1⟩
    have hmin : ∀ a w, (∃ m, ∃ ρ, Rep n a ρ ∧ a.defers = ds ∧ I m ρ w) → (fun m => (∃ ρ, Rep n a ρ ∧ a.defers = ds ∧ I m ρ w) ∧ ∀ m', (∃ ρ, Rep n a ρ ∧ a.defers = ds ∧ I m' ρ w) → m ≤ m') (Classical.epsilon fun m => (∃ ρ, Rep n a ρ ∧ a.defers = ds ∧ I m ρ w) ∧ ∀ m', (∃ ρ, Rep n a ρ ∧ a.defers = ds ∧ I m' ρ w) → m ≤ m') := by
      intro a w hex
      refine Classical.epsilon_spec (p := fun m => (∃ ρ, Rep n a ρ ∧ a.defers = ds ∧ I m ρ w) ∧ ∀ m', (∃ ρ, Rep n a ρ ∧ a.defers = ds ∧ I m' ρ w) → m ≤ m') ?_
      obtain ⟨m, hm⟩ := hex
      induction m using Nat.strongRecOn with
      | _ m ih =>
        by_cases hlt : ∃ m' < m, ∃ ρ, Rep n a ρ ∧ a.defers = ds ∧ I m' ρ w
        · obtain ⟨m', h1, h2⟩ := hlt
          exact ih m' h1 h2
        · refine ⟨m, hm, fun m' h' => ?_⟩
          by_cases h'' : m ≤ m'
          · exact h''
          · exact absurd ⟨m', by omega, h'⟩ hlt
    obtain ⟨⟨ρ1, hr1, hd1, hI1⟩, hle⟩ := hmin a w ⟨m1, hm1⟩
    refine wpIn_mono (round _ ρ1 w hI1 a hr1 hd1) fun e a2 w2 hl => ?_
    obtain ⟨ρ2, hr2, hd2, hl⟩ := hl
    cases e with
    | normal =>
      obtain ⟨m3, ρ3, ⟨hI3, hlt⟩, hs3⟩ : ∃ m2 ρ2', (I m2 ρ2' w2 ∧ m2 < _) ∧ Sub ρ2' ρ2 := hl
      have hex : ∃ ρ, Rep n a2 ρ ∧ a2.defers = ds ∧ I m3 ρ w2 := ⟨ρ3, hr2.sub hs3, hd2, hI3⟩
      exact ⟨⟨m3, hex⟩, Nat.lt_of_le_of_lt ((hmin a2 w2 ⟨m3, hex⟩).2 m3 hex) hlt⟩
    | _ => exact ⟨ρ2, hr2, hd2, hl⟩
  exact key m a w ⟨ρ, hr, hd, h0⟩
theorem Wi.sub {c : Code} {Q : Post} {ρ' : E} (hs : Sub ρ' ρ) (h : Wi r P n ds c Q ρ' w) : Wi r P n ds c Q ρ w := fun a hr hd => h a (hr.sub hs) hd
/-- Operations of a region within a fence. -/
def OpsI (r : Option Nat) (P : Program) (n : Nat) (ds : List Deferred) (all : Array Oper) (Q : Post) (l : List Oper) (ρ : E) (w : World) : Prop :=
  ∀ a, Rep n a ρ → a.defers = ds → wpListIn (Fw r) 0 P all (LI n ds Q) l a w
theorem Wi.region {id : Nat} {l : List Oper} {Q : Post} (h : OpsI r P n ds l.toArray Q l ρ w) : Wi r P n ds (.region id l.toArray false) Q ρ w :=
  fun a hr hd => wpIn_region_lit (h a hr hd)
theorem OpsI.nil {all : Array Oper} {Q : Post} (h : Q .normal ρ w) : OpsI r P n ds all Q [] ρ w := fun a hr hd => wpListIn_nil ⟨ρ, hr, hd, h⟩
/-- A stretch without yield. -/
theorem OpsI.pre {all : Array Oper} {Q : Post} {rest : List Oper} (pre : List Oper) (hi : (pre.all fun o => dOk n o.dst) = true) (hd : noDefer pre = true)
    (h : Ops none P n ds all [.lp (OpsI r P n ds all Q rest)] (fun _ _ _ => False) pre ρ w) : OpsI r P n ds all Q (pre ++ rest) ρ w := by
  intro a hr hds
  exact listIn (fun c a w h => by obtain ⟨_, _, h⟩ := h; exact h.2) (fun h => by obtain ⟨_, _, _, _, h⟩ := h; exact h.2) (fun a w h => by obtain ⟨ρ', h1, h2, h3⟩ := h; exact h3 a h1 h2) pre a w hd (h hi a hr hds)
theorem OpsI.split {all : Array Oper} {Q : Post} {l pre rest : List Oper} (m : Nat) (h1 : l.take m = pre) (h2 : l.drop m = rest) (hi : (pre.all fun o => dOk n o.dst) = true) (hd : noDefer pre = true)
    (h : Ops none P n ds all [.lp (OpsI r P n ds all Q rest)] (fun _ _ _ => False) pre ρ w) : OpsI r P n ds all Q l ρ w := by
  have := OpsI.pre (r := r) (Q := Q) (rest := rest) pre hi hd h
  rw [← h1, ← h2, List.take_append_drop] at this
  exact this
theorem OpsI.sub {all : Array Oper} {Q : Post} {l : List Oper} {ρ' : E} (hs : Sub ρ' ρ) (h : OpsI r P n ds all Q l ρ' w) : OpsI r P n ds all Q l ρ w := fun a hr hd => h a (hr.sub hs) hd
theorem Wi.regionN {id : Nat} {l : List Oper} {Q : Post} (hi : (l.all fun o => dOk n o.dst) = true) (hd : noDefer l = true) (h : Ops none P n ds l.toArray [.lp (Q .normal)] (fun _ _ _ => False) l ρ w) : Wi r P n ds (.region id l.toArray false) Q ρ w := by
  refine Wi.region ?_
  have := OpsI.pre (r := r) (rest := []) (Q := Q) (all := l.toArray) l hi hd (ρ := ρ) (w := w) (P := P) (ds := ds) (fun hh a hr hds => wpList_mono (fun e a w h => by
    obtain ⟨ρ', h1, h2⟩ := h
    cases e with
    | normal => exact ⟨ρ', h1, LiftD.mk h2.1 (OpsI.nil h2.2)⟩
    | ret => obtain ⟨_, _, h3⟩ := h2; exact h3.elim
    | _ => exact h2.2.elim) _ _ _ (h hh a hr hds))
  rwa [List.append_nil] at this
/-- A guarded call of yield. -/
theorem OpsI.yield {all : Array Oper} {Q : Post} {rest : List Oper} {o : Oper} {d j g : Nat} {x y : Operand} {l : Nat} {v : Value} {ts : Array TypeId}
    (ho : o.op = .call { callee := .value x, args := #[y], argTypes := ts }) (hdst : o.dst = some d) (hlt : Nat.blt d n = true) (hg : o.guard = some (j, true)) (hj : (all[j]?).bind (·.dst) = some g) (hv : look ρ g = some (.bool true))
    (hx : ev ρ x = some (.func (.yield l) #[] #[])) (hy : ev ρ y = some v)
    (hyld : YieldAt (Fw r) 0 P l #[v] w (fun e w' => e = .returned (.bool true) ∧ OpsI r P n ds all Q rest ((d, .bool true) :: ρ) w')) : OpsI r P n ds all Q (o :: rest) ρ w := by
  intro a hr hd
  unfold wpListIn
  have hyy := yielded_of hr hj hv
  rw [if_pos (by simp [Region.wanted, hg, hyy])]
  refine ⟨fun f _ => Fw_fn r f, ?_⟩
  rw [Oper.semAt_eq _ _ _ (by rw [ho]; simp)]
  obtain ⟨fn, tmps, assign, body, hrun, hround⟩ := hyld
  have he : (execOp a.eval o).run P w = .ok (.round l fn tmps assign body) w := by
    have q : #[y].map a.eval = #[v] := by simp only [List.map_toArray, List.map_cons, List.map_nil, hr.ev hy]
    rw [← hrun]
    simp only [execOp, ho, resolve, q]
    simp [hr.ev hx, Deferred.ofValue, invoke]
  rw [he, Oper.uponIn_round]
  refine ⟨fun h => (by rw [Fw_dep] at h; cases h), RoundIn.mono hround fun e w' he => ?_⟩
  obtain ⟨rfl, h⟩ := he
  have hput : Rep n (a.put o.dst (.bool true)) ((d, .bool true) :: ρ) := by
    have := hr.put (d := o.dst) (by rw [hdst]; exact hlt) (.bool true)
    rw [hdst] at this ⊢
    exact this
  exact h _ hput (by rw [hdst]; exact hd)
theorem ordA_any {Φ : Post} {k : List It} {ops : Array Oper} (s : Nat) (π : List (Nat × Nat)) (hi : (ops.toList.all fun o => dOk n o.dst) = true) (hs : Region.noSelect ops = true) (hlen : π.length = ops.size) (hc : chkA ops s π (List.replicate π.length false) = true) (hΦ : ∀ c ρ w, ¬ Φ (.panic c) ρ w)
    (h : OrdA P n ds ops k Φ s (fun w' => Below w.heap.size w w') π (List.replicate π.length false) ρ) (a : Act) (hr : Rep n a ρ) (hd : a.defers = ds) : wpAny P .any ops (lift n ds (Qof P n ds Φ k)) ops.size (Array.replicate ops.size false) a w.drew := by
  have := wpAny_of_A _ _ _ (h hc hs hi (by rw [List.toArray_replicate]; exact Cl.start _) hΦ a hr hd) w.drew (Kp.below (kp_drew w) (Nat.le_refl _) (fun _ _ e => e))
  rw [← hlen]
  rw [List.toArray_replicate] at this
  exact this
theorem Wi.ordA {id : Nat} {ops : Array Oper} {Q : Post} (s : Nat) (π : List (Nat × Nat)) (hm : P.follows .mixedOrders = true) (hi : (ops.toList.all fun o => dOk n o.dst) = true) (hdf : noDefer ops.toList = true) (hs : Region.noSelect ops = true) (hlen : π.length = ops.size) (hc : chkA ops s π (List.replicate π.length false) = true)
    (h : OrdA P n ds ops [.lp (Q .normal)] (fun _ _ _ => False) s (fun w' => Below w.heap.size w w') π (List.replicate π.length false) ρ) : Wi r P n ds (.region id ops true) Q ρ w := by
  intro a hr hd
  refine wpIn_region_any hm ?_
  exact anyIn (fun c a w h => by obtain ⟨_, _, h⟩ := h; exact h.2) (fun h => by obtain ⟨_, _, _, _, h⟩ := h; exact h.2) (fun a w h => by obtain ⟨ρ', h1, h2, h3⟩ := h; exact ⟨ρ', h1, h2, h3⟩) hdf _ _ _ _ (ordA_any s π hi hs hlen hc (fun _ _ _ h => h) h a hr hd)
/-- A function that may call yield, from its first instruction on. -/
theorem callsIn_Wi {f : FuncId} {fn : Func} {c : Code} {vs : List Value} {R : Value → World → Prop} (hf : P.funcs[f]? = some fn) (hb : fn.body = some c) (hs : Nat.ble vs.length fn.ntmps = true)
    (h : Wi none P fn.ntmps [] c (fun e ρ w => (e = .normal ∨ e = .ret) ∧ ∃ us, resT fn.results.toList ρ = some us ∧ R (resV us) w) (argE vs 0) w) : CallsIn (Fw none) 0 P f vs.toArray w (Ret R) := by
  have hs' : vs.length ≤ fn.ntmps := Nat.le_of_ble_eq_true hs
  refine callsIn_of_wp hf hb trivial ?_
  have hrep : Rep fn.ntmps { tmps := vs.toArray ++ Array.replicate (fn.ntmps - vs.toArray.size) undef, defers := [] } (argE vs 0) := by
    refine ⟨by simp; omega, fun t v hl => ?_⟩
    obtain ⟨_, h2⟩ := look_argE vs 0 t v hl
    have ht : t < vs.length := by
      rw [Nat.sub_zero] at h2
      exact (List.getElem?_eq_some_iff.1 h2).1
    rw [Nat.sub_zero] at h2
    simp [Array.getD_eq_getD_getElem?, Array.getElem?_append, ht, h2]
    rw [List.getElem?_eq_getElem ht] at h2
    simpa using h2
  refine wpIn_mono (h _ hrep rfl) ?_
  rintro e a w' ⟨ρ', hr', hd', he, us, hu, hR⟩
  rcases he with rfl | rfl
  · exact ⟨hd', _, run_results hr' hu, _, rfl, hR⟩
  · exact ⟨hd', _, run_results hr' hu, _, rfl, hR⟩
end
end Go.Proofs.Ytdiljpnfochndaa.VW
/- A range over a function, and one of its rounds. -/
namespace Go.Proofs.Ytdiljpnfochndaa.VW
open Go Go.RowKit
abbrev loopRec (fn : FuncId) (tmps : Array Value) (ps : Array Tmp) (assign body : Code) (D : Nat) : Loop := { state := .ready, pending := none, fn, tmps, params := ps, assign, body, defers := D }
section
variable {P : Program} {n : Nat} {ds : List Deferred} {ρ : E} {w : World}
theorem round_in {fn : FuncId} {tmps : Array Value} {p : Nat} {assign body : Code} {D L : Nat} {v : Value} {R : Ending → World → Prop} (hL : w.heap[L]? = some (.loop (loopRec fn tmps #[p] assign body D))) (hr : Rep n { tmps := tmps, defers := [] } ρ) (hp : Nat.blt p n = true)
    (h : Wi (some L) P n [] assign (fun e ρ1 w1 => e = .normal ∧ ∃ r, w1.heap[L]? = some (.loop r) ∧ r.state = .ready ∧ Wi (some L) P n [] body (fun e ρ2 w2 => e = .normal ∧ ∃ r2, w2.heap[L]? = some (.loop r2) ∧ R (.returned (.bool true)) (w2.putObj L (.loop { r2 with state := .ready, pending := none }))) ρ1 (w1.putObj L (.loop { r with state := .busy }))) ((p, v) :: ρ) w) :
    YieldAt (Fw none) 0 P L #[v] w R := by
  refine ⟨fn, _, assign, body, run_yield hL rfl, roundIn_of_wpIn (Fw_fn none fn) ?_⟩
  have hrep : Rep n { tmps := ((#[p] : Array Tmp).zip #[v]).foldl (fun tmps (t, a) => tmps.setIfInBounds t a) tmps, defers := [] } ((p, v) :: ρ) := by
    have := hr.put (d := some p) hp v
    simpa [Act.put, VW.put] using this
  refine wpIn_mono (h _ hrep rfl) ?_
  rintro e a w1 ⟨ρ1, hr1, hd1, rfl, r, hl1, hs1, hb⟩
  refine ⟨_, run_beginRound hl1 hs1, wpIn_mono (hb _ hr1 hd1) ?_⟩
  rintro e a2 w2 ⟨ρ2, hr2, hd2, rfl, r2, hl2, hR⟩
  exact ⟨_, _, run_endRound none hl2, hR⟩
/-- Code with a tail c2 still to come, before which marks may be laid. -/
def JW (P : Program) (n : Nat) (ds : List Deferred) (Φ : Post) (c2 c : Code) (ρ : E) (w : World) : Prop :=
  inB n c = true → ∀ a, Rep n a ρ → a.defers = ds → c.wp P (Exit.then (c2.wp P (lift n ds (Qof P n ds Φ []))) (lift n ds (Qof P n ds Φ []))) a w
theorem W.toJ {Y c2 : Code} {Φ : Post} (h : JW P n ds Φ c2 Y ρ w) : W P n ds [.code (.seq Y c2)] Φ ρ w := by
  intro hi a hr hd
  simp only [inB, Bool.and_eq_true] at hi
  exact wp_seq (h hi.1 a hr hd)
theorem JW.seq {x rest c2 : Code} {Φ : Post} (hi2 : inB n rest = true) (h : W P n ds [.code x, .lp (JW P n ds Φ c2 rest)] Φ ρ w) : JW P n ds Φ c2 (.seq x rest) ρ w := by
  intro hi a hr hd
  simp only [inB, Bool.and_eq_true] at hi
  refine wp_seq (wp_mono (h hi.1 a hr hd) fun e a w hl => ?_)
  cases e with
  | normal =>
    obtain ⟨ρ', hr', hl⟩ := hl
    obtain ⟨hd', hq⟩ := hl
    exact hq hi2 a hr' hd'
  | _ => exact hl
theorem JW.sub {c c2 : Code} {Φ : Post} {ρ' : E} (hs : Sub ρ' ρ) (h : JW P n ds Φ c2 c ρ' w) : JW P n ds Φ c2 c ρ w := fun hi a hr hd => h hi a (hr.sub hs) hd
theorem JW.range {id : Nat} {g : Operand} {p : Nat} {assign body c2 : Code} {gf : Nat} {lb : List Value} {Φ : Post} (hg : ev ρ g = some (.func (.func gf) #[] lb.toArray)) (hgf : callOk P gf = true) (hi2 : inB n c2 = true)
    (h : ∀ fn tmps, Rep n { tmps := tmps, defers := [] } ρ → ∀ D W1, D = w.heap.size → W1 = (w.alloc (.deferred (some []))).alloc (.loop (loopRec fn tmps #[p] assign body D)) →
      CallsIn (Fw none) 0 P gf (.func (.yield (D + 1)) #[] #[] :: lb).toArray W1 (Ret fun _ W2 => ∃ r, W2.heap[D + 1]? = some (.loop r) ∧ r.state = .ready ∧ r.pending = none ∧ W2.heap[D]? = some (.deferred (some [])) ∧
        ∀ W3, W3 = W2.putObj (D + 1) (.loop { r with state := .exhausted }) → W P n ({ target := .collected D, args := #[] } :: ds) [.code c2] (fun e ρ w => e = .ret ∧ w.heap[D]? = some (.deferred (some [])) ∧ Φ .ret ρ (w.putObj D (.deferred none))) ρ W3)) :
    JW P n ds Φ c2 (.block id (.rangeFunc g #[p] assign body)) ρ w := by
  intro hi a hr hd
  refine (wpIn_wide (n := 0)).1 (wpIn_block (wpIn_rangeFunc fun fn hfn => ?_))
  have hrep : Rep n { tmps := a.tmps, defers := [] } ρ := ⟨hr.size, hr.slot⟩
  have hcall := h fn a.tmps hrep _ _ rfl rfl
  have hev := hr.ev hg
  refine ⟨_, _, _, { target := .fn (.func gf) lb.toArray, args := #[.func (.yield (w.heap.size + 1)) #[] #[]] }, (w.alloc (.deferred (some []))).alloc (.loop (loopRec fn a.tmps #[p] assign body w.heap.size)), gf, _, _, run_enterLoop_outer _ _ _ _ _, ?_, fun f' _ => trivial, ?_, fun h => (by cases h), CallsIn.mono hcall ?_⟩
  · simp only [resolve, hev]
    simp [go_sem]
  · have hcf := run_callFunc (P := P) (w := (w.alloc (.deferred (some []))).alloc (.loop (loopRec fn a.tmps #[p] assign body w.heap.size))) (args := (.func (.yield (w.heap.size + 1)) #[] #[] :: lb).toArray) hgf
    have e : (Value.func (.yield (w.heap.size + 1)) #[] #[] :: lb).toArray = #[.func (.yield (w.heap.size + 1)) #[] #[]] ++ lb.toArray := by simp
    rw [e] at hcf ⊢
    simpa [invoke] using hcf
  · rintro e W2 ⟨v, rfl, r, hl, hs, hp, hD, hw⟩
    obtain ⟨st, pe, q1, q2, q3, q4, q5, q6⟩ := r
    simp only at hs hp
    subst hp
    refine ⟨none, _, run_endLoop (P := P) hl (by simp [hs]), ?_⟩
    show c2.wp P _ _ _
    have hw' := hw _ rfl hi2 { a with defers := { target := .collected w.heap.size, args := #[] } :: a.defers } ⟨hr.size, hr.slot⟩ (by rw [hd])
    refine wp_mono hw' ?_
    rintro e a3 w3 ⟨ρ3, hr3, hl3⟩
    cases e with
    | ret =>
      obtain ⟨w4, hm, _, hD3, hΦ⟩ := hl3
      exact ⟨ρ3, hr3, _, hm.trans (.cons hD3 (.nil _ _)), Qof.ret hΦ⟩
    | _ => exact absurd hl3.2.1 (by simp)
end
section
variable {P : Program} [hT : Tab P] {n : Nat} {ds : List Deferred} {ρ : E} {w : World} {all : Array Oper} {k : List It} {Φ : Post} {s : Nat} {F : World → Prop} {π : List (Nat × Nat)} {L : List Bool}
theorem x_D {i d t b q t' : Nat} {o : Oper} {x : Operand} {cs : Array Value} {v : Value} {w0 : World} {c : Bool} (h1 : all[i]? = some o := by exact rfl) (ho : o.op = .load t x := by exact rfl) (hd : o.dst = some d := by exact rfl) (hg : gdB all ρ o.guard = some c := by exact rfl) (hgc : c = true := by exact rfl)
    (ht : tyAgg P t = some false := by exact rfl) (hx : ev ρ x = some (.pointer (some ⟨b, q, none⟩)) := by exact rfl) (hb : Blk w0 b cs t' := by assumption) (hF : ∀ w, F w → Below w0.heap.size w0 w := by first | exact fun _ h => h | (intro _ h; exact Below.via (by assumption) h)) (hi : nth cs.toList q = some v := by exact rfl) (kk : OrdA P n ds all k Φ s F π (L.set i true) ((d, v) :: ρ)) : OrdA P n ds all k Φ s F ((i, 2) :: π) L ρ :=
  OrdA.read h1 hd hg hgc (fun w hFw => EV.ld ho ht hx ((hb.kp (Kp.of_below (S := fun _ => False) (hF w hFw)) (fun e => e)).cell (by rw [nth_eq, Array.getElem?_toList] at hi; exact hi))) kk
end
end Go.Proofs.Ytdiljpnfochndaa.VW
/- A store into a slice of the call's own, behind another effect of a drawn region. -/
namespace Go.Proofs.Ytdiljpnfochndaa.VW
open Go Go.RowKit
section
variable {P : Program} [hT : Tab P] {n : Nat} {ds : List Deferred} {Φ : Post} {k : List It} {ρ : E} {w : World} {all : Array Oper} {π : List (Nat × Nat)} {L : List Bool}
theorem Ord.wrO {α : Type} {enc : α → Value} {w0 : World} {i1 i2 d1 t t' e : Nat} {o1 o2 : Oper} {x y z : Operand} {v : Value} {u : α} {i : Int} {os : List α} {c1 : Bool}
    (h1 : all[i1]? = some o1) (ho : o1.op = .indexAddr t x y) (hd1 : o1.dst = some d1) (hg1 : gdB all ρ o1.guard = some c1) (hc1 : c1 = true) (h2 : all[i2]? = some o2) (ho2 : o2.op = .store t' (.tmp d1) z) (hd2 : o2.dst = none) (hg2 : o2.guard = none)
    (ht : tyD P t = some (.slice e)) (hs : tyS P e = some 1) (hs' : tyS P t' = some 1) (hx : ev ρ x = some v) (hy : ev ρ y = some (.int .i64 i)) (hz : ∀ p, ev ((d1, .pointer p) :: ρ) z = some (enc u)) (h1c : (enc u).oneCell' = true)
    (hO : OI e enc w0 w v os) (h0 : 0 ≤ i) (hi : i < os.length) (hΦ : ∀ c ρ w, ¬ Φ (.panic c) ρ w)
    (hk : ∀ w' p, OI e enc w0 w' v (os.set i.toNat u) → Kp (fun b => v.ownBlock = some b) w w' → w'.heap.size = w.heap.size → VW.Ord P n ds all k Φ 9999 (fun _ => True) π ((L.set i1 true).set i2 true) ((d1, p) :: ρ) w') : VW.Ord P n ds all k Φ 9999 (fun _ => True) ((i1, 1) :: (i2, 0) :: π) L ρ w := by
  obtain ⟨A, c, rfl⟩ := hO.sh
  have hA : ∃ a, A = some a := by
    cases A with
    | some a => exact ⟨a, rfl⟩
    | none =>
      rcases hO.own.2 with ⟨h2, h3⟩ | ⟨g, cap, cur, h2, _⟩
      · omega
      · cases h2
  obtain ⟨a, rfl⟩ := hA
  refine VW.Ord.pure h1 hd1 hg1 hc1 hΦ (fun w => EV.idx ho ht hs hx hy h0 hi) (VW.Ord.effT h2 ?_)
  exact Ops.stO (i := i.toNat) ho2 hd2 hg2 hs' rfl (ev_top _ _ _) (hz _) h1c hO (by omega) (fun w' hO' k1 hsz => Ops.nil (W.endl (hk w' _ hO' k1 hsz)))
end
end Go.Proofs.Ytdiljpnfochndaa.VW
namespace Go.Proofs.Ytdiljpnfochndaa
open Go Go.RowKit Go.Proofs.Ytdiljpnfochndaa.VW
open Go.Proofs.Ytdiljpnfochndaa.HP (SegP SortK InsI swp)
attribute [local irreducible] W Ops OrdA VW.Ord OrdX
/-- A slice of the call's own, and what else stands. -/
structure OH (G : World → Prop) (wB w : World) (ov : Value) (os : List Int) : Prop where
  oi : OI 3 (Value.int .i64) wB w ov os
  g : G w
/-- It stands when the slice alone is written. -/
def Gst (G : World → Prop) (ov : Value) : Prop := ∀ w w', G w → Kp (fun k => ov.ownBlock = some k) w w' → G w'
theorem OH.sh {G : World → Prop} {wB w : World} {ov : Value} {os : List Int} (h : OH G wB w ov os) : ∃ A c, ov = .slice A os.length c := h.oi.sh
theorem OH.sl {G : World → Prop} {wB w : World} {ov : Value} {os : List Int} (h : OH G wB w ov os) : SlI w ov os := h.oi.sl
theorem OH.bel {G : World → Prop} {wB w : World} {ov : Value} {os : List Int} (h : OH G wB w ov os) : Below wB.heap.size wB w := h.oi.bel
theorem OH.below {G : World → Prop} {wB w w' : World} {ov : Value} {os : List Int} (h : OH G wB w ov os) (hs : Gst G ov) (k : Below w.heap.size w w') : OH G wB w' ov os := ⟨h.oi.below k, hs _ _ h.g (Kp.of_below k)⟩
theorem OH.wr {G : World → Prop} {wB w w4 w5 w6 : World} {ov : Value} {os os' : List Int} (h : OH G wB w ov os) (hs : Gst G ov) (hb : Below w.heap.size w w4) (k1 : Kp (fun b => ov.ownBlock = some b) w4 w5) (k2 : Kp (fun b => ov.ownBlock = some b) w5 w6) (hO : OI 3 (Value.int .i64) wB w6 ov os') : OH G wB w6 ov os' :=
  ⟨hO, hs _ _ (hs _ _ (hs _ _ h.g (Kp.of_below hb)) k1) k2⟩
/-- What the sort asks of the comparison: of two elements, the later one first. -/
structure Cmp (G : World → Prop) (wB : World) (fc : Nat) (first cap : List Value) (cv : Int → Int → Int) (K : Int → Int) (x y : Int) : Prop where
  call : ∀ w', Below wB.heap.size wB w' → G w' → Calls Try.prog fc (app3 first [.int .i64 y, .int .i64 x] cap).toArray w' (Ret fun v w'' => v = .int .i64 (cv y x) ∧ Below w'.heap.size w' w'')
  lt : cv y x < 0 ↔ K y < K x
  ne : K x ≠ K y
theorem callV_f {ρ : E} {c : Call} {g : Operand} {fc : Nat} {first cap vs : List Value} {vf : Value} (hvf : vf = .func (.func fc) first.toArray cap.toArray) (hc : c.callee = .value g) (hg : ev ρ g = some vf) (ha : evs ρ c.args.toList = some vs) : callV ρ c = some (fc, app3 first vs cap) := by
  subst hvf
  simp [callV, hc, hg, ha]
set_option maxHeartbeats 4000000 in
theorem insertion_c {G : World → Prop} {wB w : World} {ov vf : Value} {os0 : List Int} {a b fc : Nat} {first cap : List Value} {cv : Int → Int → Int} {K : Int → Int} (hO : OH G wB w ov os0) (hGs : Gst G ov) (hab : a ≤ b) (hb : b ≤ os0.length) (hl : os0.length ≤ 1000) (hvf : vf = .func (.func fc) first.toArray cap.toArray) (hfm : memB (Fns.L Try.prog) fc = true)
    (hcc : ∀ p q : Nat, a ≤ p → p < q → q < b → Cmp G wB fc first cap cv K (os0.getD p 0) (os0.getD q 0)) :
    Calls Try.prog 104 #[ov, .int .i64 a, .int .i64 b, vf] w (Ret fun r w' => ∃ os, OH G wB w' ov os ∧ SegP a b os0 os ∧ SortK K os a b) := by
  obtain ⟨A, c, rfl⟩ := hO.sh
  refine calls_W (vs := [_, _, _, _]) Try.func104 rfl (by kernel_rfl) rfl ?_
  (repeat (first | with_reducible refine W.seq ?_ | with_reducible refine Ops.nil ?_ | with_reducible refine W.region ?_ | refine z_p (kk := ?_) | refine z_a (kk := ?_) | refine z_y (kk := ?_) | refine z_n (kk := ?_) | refine z_u (kk := ?_) | with_reducible refine W.skip ?_ | with_reducible refine W.endb ?_ | with_reducible refine W.block ?_ | refine W.exit rfl ?_ | refine z_l (kk := ?_) | refine z_f (kk := ?_) | refine z_M (kk := ?_) | refine z_m (kk := ?_) | refine z_e (kk := ?_) | refine z_E (kk := ?_) | refine z_d (kk := ?_) | refine z_I (kk := fun _ => ?_) | refine z_J (kk := fun _ => ?_) | refine z_K (kk := fun _ => ?_) | refine z_L (kk := fun _ => ?_) | refine z_T (kk := ?_) | refine z_F (kk := ?_) | refine z_k (kk := fun _ _ _ _ _ => ?_) | refine z_w (kk := fun _ _ => ?_) | refine z_s (kk := fun _ _ _ _ => ?_) | refine z_D (kk := ?_) | refine z_g (kk := ?_) | refine z_h (kk := ?_)))
  refine W.loop (fun m ρ w1 => ∃ (i : Nat) (os : List Int), m = b - i ∧ a + 1 ≤ i ∧ ρ = [(0, .slice A os0.length c), (1, .int .i64 a), (2, .int .i64 b), (3, vf), (8, .int .i64 i)] ∧ OH G wB w1 (.slice A os0.length c) os ∧ SegP a (min i b) os0 os ∧ SortK K os a (min i b))
    ⟨_, _, ⟨a + 1, os0, rfl, Nat.le_refl _, by rw [show ((a + 1 : Nat) : Int) = (a : Int) + 1 by omega], hO, SegP.refl _ _ _, fun p q h1 h2 h3 => by omega⟩, (by repeat (first | exact trivial | refine And.intro rfl ?_))⟩ ?_
  clear hO
  rintro m ρ w1 ⟨i, os, rfl, hai, rfl, hO, hS, hK⟩
  (repeat (first | with_reducible refine W.seq ?_ | with_reducible refine Ops.nil ?_ | with_reducible refine W.region ?_ | refine z_p (kk := ?_) | refine z_a (kk := ?_) | refine z_y (kk := ?_) | refine z_n (kk := ?_) | refine z_u (kk := ?_) | with_reducible refine W.skip ?_ | with_reducible refine W.endb ?_ | with_reducible refine W.block ?_ | refine W.exit rfl ?_ | refine z_l (kk := ?_) | refine z_f (kk := ?_) | refine z_M (kk := ?_) | refine z_m (kk := ?_) | refine z_e (kk := ?_) | refine z_E (kk := ?_) | refine z_d (kk := ?_) | refine z_I (kk := fun _ => ?_) | refine z_J (kk := fun _ => ?_) | refine z_K (kk := fun _ => ?_) | refine z_L (kk := fun _ => ?_) | refine z_T (kk := ?_) | refine z_F (kk := ?_) | refine z_k (kk := fun _ _ _ _ _ => ?_) | refine z_w (kk := fun _ _ => ?_) | refine z_s (kk := fun _ _ _ _ => ?_) | refine z_D (kk := ?_) | refine z_g (kk := ?_) | refine z_h (kk := ?_)))
  (first | refine W.condD rfl (fun hc => ?_) (fun hc => ?_) | refine W.condE rfl (fun hc => ?_) (fun hc => ?_) | refine W.condN rfl (fun hc => ?_) (fun hc => ?_) | refine W.cond rfl (fun hc => ?_) (fun hc => ?_))
  · have hib : i < b := by omega
    rw [show min i b = i by omega] at hS hK
    have hI0 := InsI.start hS hK (by omega)
    (repeat (first | with_reducible refine W.seq ?_ | with_reducible refine Ops.nil ?_ | with_reducible refine W.region ?_ | refine z_p (kk := ?_) | refine z_a (kk := ?_) | refine z_y (kk := ?_) | refine z_n (kk := ?_) | refine z_u (kk := ?_) | with_reducible refine W.skip ?_ | with_reducible refine W.endb ?_ | with_reducible refine W.block ?_ | refine W.exit rfl ?_ | refine z_l (kk := ?_) | refine z_f (kk := ?_) | refine z_M (kk := ?_) | refine z_m (kk := ?_) | refine z_e (kk := ?_) | refine z_E (kk := ?_) | refine z_d (kk := ?_) | refine z_I (kk := fun _ => ?_) | refine z_J (kk := fun _ => ?_) | refine z_K (kk := fun _ => ?_) | refine z_L (kk := fun _ => ?_) | refine z_T (kk := ?_) | refine z_F (kk := ?_) | refine z_k (kk := fun _ _ _ _ _ => ?_) | refine z_w (kk := fun _ _ => ?_) | refine z_s (kk := fun _ _ _ _ => ?_) | refine z_D (kk := ?_) | refine z_g (kk := ?_) | refine z_h (kk := ?_)))
    refine W.loop (fun m ρ w2 => ∃ (j : Nat) (os : List Int), m = j ∧ ρ = [(0, .slice A os0.length c), (1, .int .i64 a), (2, .int .i64 b), (3, vf), (8, .int .i64 i), (9, .int .i64 j)] ∧ OH G wB w2 (.slice A os0.length c) os ∧ InsI K os0 a i j os)
      ⟨_, _, ⟨i, os, rfl, rfl, hO, hI0⟩, (by repeat (first | exact trivial | refine And.intro rfl ?_))⟩ ?_
    clear hO hI0 hS hK
    rintro m ρ w2 ⟨j, os, hm, rfl, hO, hI⟩
    subst m
    have hb2 := hO.bel
    have hol := hI.seg.len
    have hji := hI.ji
    have haj := hI.aj
    have hdone : (j = a ∨ ∃ m : Nat, j = m + 1 ∧ K (os.getD m 0) < K (os0.getD i 0)) → SegP a (min (i + 1) b) os0 os ∧ SortK K os a (min (i + 1) b) := fun hd => by
      rw [show min (i + 1) b = i + 1 by omega]
      exact ⟨hI.seg, hI.done hd⟩
    by_cases hj : a < j
    · obtain ⟨q, rfl⟩ : ∃ q, j = q + 1 := ⟨j - 1, by omega⟩
      have hsl : SlI w2 (.slice A os0.length c) os := hO.sl
      (repeat (first | with_reducible refine W.seq ?_ | with_reducible refine Ops.nil ?_ | with_reducible refine W.region ?_ | refine z_p (kk := ?_) | refine z_a (kk := ?_) | refine z_y (kk := ?_) | refine z_n (kk := ?_) | refine z_u (kk := ?_) | with_reducible refine W.skip ?_ | with_reducible refine W.endb ?_ | with_reducible refine W.block ?_ | refine W.exit rfl ?_ | refine z_l (kk := ?_) | refine z_f (kk := ?_) | refine z_M (kk := ?_) | refine z_m (kk := ?_) | refine z_e (kk := ?_) | refine z_E (kk := ?_) | refine z_d (kk := ?_) | refine z_I (kk := fun _ => ?_) | refine z_J (kk := fun _ => ?_) | refine z_K (kk := fun _ => ?_) | refine z_L (kk := fun _ => ?_) | refine z_T (kk := ?_) | refine z_F (kk := ?_) | refine z_k (kk := fun _ _ _ _ _ => ?_) | refine z_w (kk := fun _ _ => ?_) | refine z_s (kk := fun _ _ _ _ => ?_) | refine z_D (kk := ?_) | refine z_g (kk := ?_) | refine z_h (kk := ?_)))
      refine W.ordA 99 [(0, 1), (1, 1), (2, 1), (3, 1), (4, 1), (5, 1), (6, 1), (7, 1), (8, 2), (9, 1), (10, 1), (11, 1), (12, 1), (13, 2), (14, 2), (15, 1), (16, 1)] rfl (by kernel_rfl) rfl (by kernel_rfl) (fun _ _ _ h => h) ?_
      (repeat (first | refine x_p (kk := ?_) | refine x_n (kk := ?_) | refine x_a (kk := ?_) | refine x_l (kk := ?_) | refine x_M (kk := ?_) | refine x_m (kk := ?_) | refine x_e (kk := ?_) | refine x_E (kk := ?_) | refine x_T (kk := ?_) | refine x_F (kk := ?_) | refine x_I (kk := fun _ => ?_) | refine x_J (kk := fun _ => ?_) | refine x_K (kk := fun _ => ?_) | refine x_L (kk := fun _ => ?_) | refine x_k (kk := fun _ _ _ _ _ => ?_) | refine x_w (kk := fun _ _ => ?_) | refine x_s (kk := fun _ _ _ _ => ?_)))
      (first | refine x_t (kk := ?_) | refine x_f (kk := ?_))
      (repeat (first | refine x_p (kk := ?_) | refine x_n (kk := ?_) | refine x_a (kk := ?_) | refine x_l (kk := ?_) | refine x_M (kk := ?_) | refine x_m (kk := ?_) | refine x_e (kk := ?_) | refine x_E (kk := ?_) | refine x_T (kk := ?_) | refine x_F (kk := ?_) | refine x_I (kk := fun _ => ?_) | refine x_J (kk := fun _ => ?_) | refine x_K (kk := fun _ => ?_) | refine x_L (kk := fun _ => ?_) | refine x_k (kk := fun _ _ _ _ _ => ?_) | refine x_w (kk := fun _ _ => ?_) | refine x_s (kk := fun _ _ _ _ => ?_)))
      obtain ⟨r, r1, r2, r3⟩ := hI.old q (by omega) (by omega) (by omega)
      have hcm := hcc r i r1 r2 hib
      refine OrdA.call rfl rfl rfl rfl rfl (callV_f hvf rfl rfl rfl) hfm (v := .int .i64 (cv (os0.getD i 0) (os0.getD r 0))) (fun w' hw' => ?_) ?_
      · rw [hI.cur, show (((q + 1 : Nat) : Int) - 1).toNat = q by omega, r3]
        exact (hcm.call w' (Below.via hb2 hw') (hGs _ _ hO.g (Kp.of_below hw'))).mono fun e w'' ⟨v, he, hv, hb⟩ => ⟨v, he, hv, Below.via hw' hb⟩
      (repeat (first | refine x_p (kk := ?_) | refine x_n (kk := ?_) | refine x_a (kk := ?_) | refine x_l (kk := ?_) | refine x_M (kk := ?_) | refine x_m (kk := ?_) | refine x_e (kk := ?_) | refine x_E (kk := ?_) | refine x_T (kk := ?_) | refine x_F (kk := ?_) | refine x_I (kk := fun _ => ?_) | refine x_J (kk := fun _ => ?_) | refine x_K (kk := fun _ => ?_) | refine x_L (kk := fun _ => ?_) | refine x_k (kk := fun _ _ _ _ _ => ?_) | refine x_w (kk := fun _ _ => ?_) | refine x_s (kk := fun _ _ _ _ => ?_)))
      refine OrdA.nil (fun w3 hb3 => ?_)
      have hO3 := hO.below hGs hb3
      clear hO hsl
      (repeat (first | with_reducible refine W.seq ?_ | with_reducible refine Ops.nil ?_ | with_reducible refine W.region ?_ | refine z_p (kk := ?_) | refine z_a (kk := ?_) | refine z_y (kk := ?_) | refine z_n (kk := ?_) | refine z_u (kk := ?_) | with_reducible refine W.skip ?_ | with_reducible refine W.endb ?_ | with_reducible refine W.block ?_ | refine W.exit rfl ?_ | refine z_l (kk := ?_) | refine z_f (kk := ?_) | refine z_M (kk := ?_) | refine z_m (kk := ?_) | refine z_e (kk := ?_) | refine z_E (kk := ?_) | refine z_d (kk := ?_) | refine z_I (kk := fun _ => ?_) | refine z_J (kk := fun _ => ?_) | refine z_K (kk := fun _ => ?_) | refine z_L (kk := fun _ => ?_) | refine z_T (kk := ?_) | refine z_F (kk := ?_) | refine z_k (kk := fun _ _ _ _ _ => ?_) | refine z_w (kk := fun _ _ => ?_) | refine z_s (kk := fun _ _ _ _ => ?_) | refine z_D (kk := ?_) | refine z_g (kk := ?_) | refine z_h (kk := ?_)))
      (first | refine W.condD rfl (fun hc => ?_) (fun hc => ?_) | refine W.condE rfl (fun hc => ?_) (fun hc => ?_) | refine W.condN rfl (fun hc => ?_) (fun hc => ?_) | refine W.cond rfl (fun hc => ?_) (fun hc => ?_))
      · have hlt : K (os0.getD i 0) < K (os.getD q 0) := by rw [r3]; exact hcm.lt.1 hc
        have hI' := hI.step (by omega) (by omega) hlt
        have hsl3 : SlI w3 (.slice A os0.length c) os := hO3.sl
        (repeat (first | with_reducible refine W.seq ?_ | with_reducible refine Ops.nil ?_ | with_reducible refine W.region ?_ | refine z_p (kk := ?_) | refine z_a (kk := ?_) | refine z_y (kk := ?_) | refine z_n (kk := ?_) | refine z_u (kk := ?_) | with_reducible refine W.skip ?_ | with_reducible refine W.endb ?_ | with_reducible refine W.block ?_ | refine W.exit rfl ?_ | refine z_l (kk := ?_) | refine z_f (kk := ?_) | refine z_M (kk := ?_) | refine z_m (kk := ?_) | refine z_e (kk := ?_) | refine z_E (kk := ?_) | refine z_d (kk := ?_) | refine z_I (kk := fun _ => ?_) | refine z_J (kk := fun _ => ?_) | refine z_K (kk := fun _ => ?_) | refine z_L (kk := fun _ => ?_) | refine z_T (kk := ?_) | refine z_F (kk := ?_) | refine z_k (kk := fun _ _ _ _ _ => ?_) | refine z_w (kk := fun _ _ => ?_) | refine z_s (kk := fun _ _ _ _ => ?_) | refine z_D (kk := ?_) | refine z_g (kk := ?_) | refine z_h (kk := ?_)))
        refine W.ordA 15 [(0, 1), (1, 1), (2, 1), (3, 1), (4, 1), (5, 1), (6, 1), (7, 1), (8, 1), (9, 2), (10, 1), (11, 1), (12, 1), (13, 2), (14, 1), (15, 0), (16, 1), (17, 0)] rfl (by kernel_rfl) rfl (by kernel_rfl) (fun _ _ _ h => h) ?_
        (repeat (first | refine x_p (kk := ?_) | refine x_n (kk := ?_) | refine x_a (kk := ?_) | refine x_l (kk := ?_) | refine x_M (kk := ?_) | refine x_m (kk := ?_) | refine x_e (kk := ?_) | refine x_E (kk := ?_) | refine x_T (kk := ?_) | refine x_F (kk := ?_) | refine x_I (kk := fun _ => ?_) | refine x_J (kk := fun _ => ?_) | refine x_K (kk := fun _ => ?_) | refine x_L (kk := fun _ => ?_) | refine x_k (kk := fun _ _ _ _ _ => ?_) | refine x_w (kk := fun _ _ => ?_) | refine x_s (kk := fun _ _ _ _ => ?_)))
        refine OrdA.wrO (os := os) rfl rfl rfl rfl rfl rfl rfl rfl rfl rfl rfl rfl rfl rfl (fun _ => rfl) rfl hO3.oi (fun _ h => h) (by omega) (by omega) (fun w4 w5 p hF4 hO5 hk5 hz5 => ?_)
        refine VW.Ord.wrO (os := os.set ((q + 1 : Nat) : Int).toNat (os.getD (((q + 1 : Nat) : Int) - 1).toNat 0)) rfl rfl rfl rfl rfl rfl rfl rfl rfl rfl rfl rfl rfl rfl (fun _ => rfl) rfl hO5 (by omega) (by rw [List.length_set]; omega) (fun _ _ _ h => h) (fun w6 p6 hO6 hk6 hz6 => ?_)
        refine VW.Ord.nil ?_
        replace hO6 := hO3.wr hGs hF4 hk5 hk6 hO6
        rw [show (((q + 1 : Nat) : Int) - 1).toNat = q by omega, show ((q + 1 : Nat) : Int).toNat = q + 1 by omega] at hO6
        have e1 : ((q + 1 : Nat) : Int) - 1 = (q : Int) := by omega
        (repeat (first | with_reducible refine W.seq ?_ | with_reducible refine Ops.nil ?_ | with_reducible refine W.region ?_ | refine z_p (kk := ?_) | refine z_a (kk := ?_) | refine z_y (kk := ?_) | refine z_n (kk := ?_) | refine z_u (kk := ?_) | with_reducible refine W.skip ?_ | with_reducible refine W.endb ?_ | with_reducible refine W.block ?_ | refine W.exit rfl ?_ | refine z_l (kk := ?_) | refine z_f (kk := ?_) | refine z_M (kk := ?_) | refine z_m (kk := ?_) | refine z_e (kk := ?_) | refine z_E (kk := ?_) | refine z_d (kk := ?_) | refine z_I (kk := fun _ => ?_) | refine z_J (kk := fun _ => ?_) | refine z_K (kk := fun _ => ?_) | refine z_L (kk := fun _ => ?_) | refine z_T (kk := ?_) | refine z_F (kk := ?_) | refine z_k (kk := fun _ _ _ _ _ => ?_) | refine z_w (kk := fun _ _ => ?_) | refine z_s (kk := fun _ _ _ _ => ?_) | refine z_D (kk := ?_) | refine z_g (kk := ?_) | refine z_h (kk := ?_)))
        simp only [e1]
        exact W.endl ⟨_, _, ⟨⟨q, _, rfl, rfl, hO6, hI'⟩, by omega⟩, (by repeat (first | exact trivial | refine And.intro rfl ?_))⟩
      · have hlt : K (os.getD q 0) < K (os0.getD i 0) := by
          have h1 := hcm.lt
          have h2 := hcm.ne
          rw [r3]
          omega
        have hd := hdone (.inr ⟨q, rfl, hlt⟩)
        (repeat (first | with_reducible refine W.seq ?_ | with_reducible refine Ops.nil ?_ | with_reducible refine W.region ?_ | refine z_p (kk := ?_) | refine z_a (kk := ?_) | refine z_y (kk := ?_) | refine z_n (kk := ?_) | refine z_u (kk := ?_) | with_reducible refine W.skip ?_ | with_reducible refine W.endb ?_ | with_reducible refine W.block ?_ | refine W.exit rfl ?_ | refine z_l (kk := ?_) | refine z_f (kk := ?_) | refine z_M (kk := ?_) | refine z_m (kk := ?_) | refine z_e (kk := ?_) | refine z_E (kk := ?_) | refine z_d (kk := ?_) | refine z_I (kk := fun _ => ?_) | refine z_J (kk := fun _ => ?_) | refine z_K (kk := fun _ => ?_) | refine z_L (kk := fun _ => ?_) | refine z_T (kk := ?_) | refine z_F (kk := ?_) | refine z_k (kk := fun _ _ _ _ _ => ?_) | refine z_w (kk := fun _ _ => ?_) | refine z_s (kk := fun _ _ _ _ => ?_) | refine z_D (kk := ?_) | refine z_g (kk := ?_) | refine z_h (kk := ?_)))
        exact W.endl ⟨_, _, ⟨⟨i + 1, _, rfl, by omega, rfl, hO3, hd.1, hd.2⟩, by omega⟩, (by repeat (first | exact trivial | refine And.intro rfl ?_))⟩
    · have hja : j = a := by omega
      have hd := hdone (.inl hja)
      (repeat (first | with_reducible refine W.seq ?_ | with_reducible refine Ops.nil ?_ | with_reducible refine W.region ?_ | refine z_p (kk := ?_) | refine z_a (kk := ?_) | refine z_y (kk := ?_) | refine z_n (kk := ?_) | refine z_u (kk := ?_) | with_reducible refine W.skip ?_ | with_reducible refine W.endb ?_ | with_reducible refine W.block ?_ | refine W.exit rfl ?_ | refine z_l (kk := ?_) | refine z_f (kk := ?_) | refine z_M (kk := ?_) | refine z_m (kk := ?_) | refine z_e (kk := ?_) | refine z_E (kk := ?_) | refine z_d (kk := ?_) | refine z_I (kk := fun _ => ?_) | refine z_J (kk := fun _ => ?_) | refine z_K (kk := fun _ => ?_) | refine z_L (kk := fun _ => ?_) | refine z_T (kk := ?_) | refine z_F (kk := ?_) | refine z_k (kk := fun _ _ _ _ _ => ?_) | refine z_w (kk := fun _ _ => ?_) | refine z_s (kk := fun _ _ _ _ => ?_) | refine z_D (kk := ?_) | refine z_g (kk := ?_) | refine z_h (kk := ?_)))
      refine W.ordA 99 [(0, 1), (1, 1), (2, 1), (3, 1), (4, 1), (5, 1), (6, 1), (7, 1), (8, 2), (9, 1), (10, 1), (11, 1), (12, 1), (13, 2), (14, 2), (15, 1), (16, 1)] rfl (by kernel_rfl) rfl (by kernel_rfl) (fun _ _ _ h => h) ?_
      (repeat (first | refine x_p (kk := ?_) | refine x_n (kk := ?_) | refine x_a (kk := ?_) | refine x_l (kk := ?_) | refine x_M (kk := ?_) | refine x_m (kk := ?_) | refine x_e (kk := ?_) | refine x_E (kk := ?_) | refine x_T (kk := ?_) | refine x_F (kk := ?_) | refine x_I (kk := fun _ => ?_) | refine x_J (kk := fun _ => ?_) | refine x_K (kk := fun _ => ?_) | refine x_L (kk := fun _ => ?_) | refine x_k (kk := fun _ _ _ _ _ => ?_) | refine x_w (kk := fun _ _ => ?_) | refine x_s (kk := fun _ _ _ _ => ?_)))
      (first | refine x_t (kk := ?_) | refine x_f (kk := ?_))
      (repeat (first | refine x_p (kk := ?_) | refine x_n (kk := ?_) | refine x_a (kk := ?_) | refine x_l (kk := ?_) | refine x_M (kk := ?_) | refine x_m (kk := ?_) | refine x_e (kk := ?_) | refine x_E (kk := ?_) | refine x_T (kk := ?_) | refine x_F (kk := ?_) | refine x_I (kk := fun _ => ?_) | refine x_J (kk := fun _ => ?_) | refine x_K (kk := fun _ => ?_) | refine x_L (kk := fun _ => ?_) | refine x_k (kk := fun _ _ _ _ _ => ?_) | refine x_w (kk := fun _ _ => ?_) | refine x_s (kk := fun _ _ _ _ => ?_)))
      refine OrdA.nil (fun w3 hb3 => ?_)
      have hO3 := hO.below hGs hb3
      clear hO
      (repeat (first | with_reducible refine W.seq ?_ | with_reducible refine Ops.nil ?_ | with_reducible refine W.region ?_ | refine z_p (kk := ?_) | refine z_a (kk := ?_) | refine z_y (kk := ?_) | refine z_n (kk := ?_) | refine z_u (kk := ?_) | with_reducible refine W.skip ?_ | with_reducible refine W.endb ?_ | with_reducible refine W.block ?_ | refine W.exit rfl ?_ | refine z_l (kk := ?_) | refine z_f (kk := ?_) | refine z_M (kk := ?_) | refine z_m (kk := ?_) | refine z_e (kk := ?_) | refine z_E (kk := ?_) | refine z_d (kk := ?_) | refine z_I (kk := fun _ => ?_) | refine z_J (kk := fun _ => ?_) | refine z_K (kk := fun _ => ?_) | refine z_L (kk := fun _ => ?_) | refine z_T (kk := ?_) | refine z_F (kk := ?_) | refine z_k (kk := fun _ _ _ _ _ => ?_) | refine z_w (kk := fun _ _ => ?_) | refine z_s (kk := fun _ _ _ _ => ?_) | refine z_D (kk := ?_) | refine z_g (kk := ?_) | refine z_h (kk := ?_)))
      refine W.condF rfl (by first | rfl | assumption | (simp only [bnf] <;> omega) | (simp only [*, bnf]; done) | fail) ?_
      (repeat (first | with_reducible refine W.seq ?_ | with_reducible refine Ops.nil ?_ | with_reducible refine W.region ?_ | refine z_p (kk := ?_) | refine z_a (kk := ?_) | refine z_y (kk := ?_) | refine z_n (kk := ?_) | refine z_u (kk := ?_) | with_reducible refine W.skip ?_ | with_reducible refine W.endb ?_ | with_reducible refine W.block ?_ | refine W.exit rfl ?_ | refine z_l (kk := ?_) | refine z_f (kk := ?_) | refine z_M (kk := ?_) | refine z_m (kk := ?_) | refine z_e (kk := ?_) | refine z_E (kk := ?_) | refine z_d (kk := ?_) | refine z_I (kk := fun _ => ?_) | refine z_J (kk := fun _ => ?_) | refine z_K (kk := fun _ => ?_) | refine z_L (kk := fun _ => ?_) | refine z_T (kk := ?_) | refine z_F (kk := ?_) | refine z_k (kk := fun _ _ _ _ _ => ?_) | refine z_w (kk := fun _ _ => ?_) | refine z_s (kk := fun _ _ _ _ => ?_) | refine z_D (kk := ?_) | refine z_g (kk := ?_) | refine z_h (kk := ?_)))
      exact W.endl ⟨_, _, ⟨⟨i + 1, _, rfl, by omega, rfl, hO3, hd.1, hd.2⟩, by omega⟩, (by repeat (first | exact trivial | refine And.intro rfl ?_))⟩
  · have hib : b ≤ i := by omega
    rw [show min i b = b by omega] at hS hK
    (repeat (first | with_reducible refine W.seq ?_ | with_reducible refine Ops.nil ?_ | with_reducible refine W.region ?_ | refine z_p (kk := ?_) | refine z_a (kk := ?_) | refine z_y (kk := ?_) | refine z_n (kk := ?_) | refine z_u (kk := ?_) | with_reducible refine W.skip ?_ | with_reducible refine W.endb ?_ | with_reducible refine W.block ?_ | refine W.exit rfl ?_ | refine z_l (kk := ?_) | refine z_f (kk := ?_) | refine z_M (kk := ?_) | refine z_m (kk := ?_) | refine z_e (kk := ?_) | refine z_E (kk := ?_) | refine z_d (kk := ?_) | refine z_I (kk := fun _ => ?_) | refine z_J (kk := fun _ => ?_) | refine z_K (kk := fun _ => ?_) | refine z_L (kk := fun _ => ?_) | refine z_T (kk := ?_) | refine z_F (kk := ?_) | refine z_k (kk := fun _ _ _ _ _ => ?_) | refine z_w (kk := fun _ _ => ?_) | refine z_s (kk := fun _ _ _ _ => ?_) | refine z_D (kk := ?_) | refine z_g (kk := ?_) | refine z_h (kk := ?_)))
    exact W.fend rfl ⟨os, hO, hS, hK⟩
end Go.Proofs.Ytdiljpnfochndaa
namespace Go.Proofs.Ytdiljpnfochndaa
open Go Go.RowKit Go.Proofs.Ytdiljpnfochndaa.VW
open Go.Proofs.Ytdiljpnfochndaa.HP (SegP SortK swp SwR Rot rotT)
attribute [local irreducible] W Ops OrdA VW.Ord OrdX
set_option maxHeartbeats 4000000 in
theorem swapRange_c {G : World → Prop} {wB w : World} {ov vf : Value} {os0 : List Int} {a b n : Nat} (hO : OH G wB w ov os0) (hGs : Gst G ov) (hab : a + n ≤ b) (hb : b + n ≤ os0.length) (hl : os0.length ≤ 1000) :
    Calls Try.prog 126 #[ov, .int .i64 a, .int .i64 b, .int .i64 n, vf] w (Ret fun r w' => ∃ os, OH G wB w' ov os ∧ SwR a b n os0 os) := by
  obtain ⟨A, c, rfl⟩ := hO.sh
  refine calls_W (vs := [_, _, _, _, _]) Try.func126 rfl (by kernel_rfl) rfl ?_
  (repeat (first | with_reducible refine W.seq ?_ | with_reducible refine Ops.nil ?_ | with_reducible refine W.region ?_ | refine z_p (kk := ?_) | refine z_a (kk := ?_) | refine z_y (kk := ?_) | refine z_n (kk := ?_) | refine z_u (kk := ?_) | with_reducible refine W.skip ?_ | with_reducible refine W.endb ?_ | with_reducible refine W.block ?_ | refine W.exit rfl ?_ | refine z_l (kk := ?_) | refine z_f (kk := ?_) | refine z_M (kk := ?_) | refine z_m (kk := ?_) | refine z_e (kk := ?_) | refine z_E (kk := ?_) | refine z_d (kk := ?_) | refine z_I (kk := fun _ => ?_) | refine z_J (kk := fun _ => ?_) | refine z_K (kk := fun _ => ?_) | refine z_L (kk := fun _ => ?_) | refine z_T (kk := ?_) | refine z_F (kk := ?_) | refine z_k (kk := fun _ _ _ _ _ => ?_) | refine z_w (kk := fun _ _ => ?_) | refine z_s (kk := fun _ _ _ _ => ?_) | refine z_D (kk := ?_) | refine z_g (kk := ?_) | refine z_h (kk := ?_)))
  refine W.loop (fun m ρ w1 => ∃ (i : Nat) (os : List Int), m = n - i ∧ i ≤ n ∧ ρ = [(0, .slice A os0.length c), (1, .int .i64 a), (2, .int .i64 b), (3, .int .i64 n), (10, .int .i64 i)] ∧ OH G wB w1 (.slice A os0.length c) os ∧ SwR a b i os0 os)
    ⟨_, _, ⟨0, os0, rfl, Nat.zero_le _, rfl, hO, SwR.start a b os0⟩, (by repeat (first | exact trivial | refine And.intro rfl ?_))⟩ ?_
  clear hO
  rintro m ρ w1 ⟨i, os, rfl, hin, rfl, hO, hS⟩
  have hol : os.length = os0.length := (hS.seg a (b + i) (Nat.le_refl _) (Nat.le_refl _)).len
  (repeat (first | with_reducible refine W.seq ?_ | with_reducible refine Ops.nil ?_ | with_reducible refine W.region ?_ | refine z_p (kk := ?_) | refine z_a (kk := ?_) | refine z_y (kk := ?_) | refine z_n (kk := ?_) | refine z_u (kk := ?_) | with_reducible refine W.skip ?_ | with_reducible refine W.endb ?_ | with_reducible refine W.block ?_ | refine W.exit rfl ?_ | refine z_l (kk := ?_) | refine z_f (kk := ?_) | refine z_M (kk := ?_) | refine z_m (kk := ?_) | refine z_e (kk := ?_) | refine z_E (kk := ?_) | refine z_d (kk := ?_) | refine z_I (kk := fun _ => ?_) | refine z_J (kk := fun _ => ?_) | refine z_K (kk := fun _ => ?_) | refine z_L (kk := fun _ => ?_) | refine z_T (kk := ?_) | refine z_F (kk := ?_) | refine z_k (kk := fun _ _ _ _ _ => ?_) | refine z_w (kk := fun _ _ => ?_) | refine z_s (kk := fun _ _ _ _ => ?_) | refine z_D (kk := ?_) | refine z_g (kk := ?_) | refine z_h (kk := ?_)))
  (first | refine W.condD rfl (fun hc => ?_) (fun hc => ?_) | refine W.condE rfl (fun hc => ?_) (fun hc => ?_) | refine W.condN rfl (fun hc => ?_) (fun hc => ?_) | refine W.cond rfl (fun hc => ?_) (fun hc => ?_))
  · have hi : i < n := by omega
    have hsl : SlI w1 (.slice A os0.length c) os := hO.sl
    have hS' := hS.step (by omega) (by omega)
    (repeat (first | with_reducible refine W.seq ?_ | with_reducible refine Ops.nil ?_ | with_reducible refine W.region ?_ | refine z_p (kk := ?_) | refine z_a (kk := ?_) | refine z_y (kk := ?_) | refine z_n (kk := ?_) | refine z_u (kk := ?_) | with_reducible refine W.skip ?_ | with_reducible refine W.endb ?_ | with_reducible refine W.block ?_ | refine W.exit rfl ?_ | refine z_l (kk := ?_) | refine z_f (kk := ?_) | refine z_M (kk := ?_) | refine z_m (kk := ?_) | refine z_e (kk := ?_) | refine z_E (kk := ?_) | refine z_d (kk := ?_) | refine z_I (kk := fun _ => ?_) | refine z_J (kk := fun _ => ?_) | refine z_K (kk := fun _ => ?_) | refine z_L (kk := fun _ => ?_) | refine z_T (kk := ?_) | refine z_F (kk := ?_) | refine z_k (kk := fun _ _ _ _ _ => ?_) | refine z_w (kk := fun _ _ => ?_) | refine z_s (kk := fun _ _ _ _ => ?_) | refine z_D (kk := ?_) | refine z_g (kk := ?_) | refine z_h (kk := ?_)))
    refine W.ordA 21 [(0, 1), (1, 1), (2, 1), (3, 1), (4, 1), (5, 1), (6, 1), (7, 1), (8, 1), (9, 1), (10, 1), (11, 1), (12, 1), (13, 2), (14, 1), (15, 1), (16, 1), (17, 1), (18, 1), (19, 2), (20, 1), (21, 0), (22, 1), (23, 0)] rfl (by kernel_rfl) rfl (by kernel_rfl) (fun _ _ _ h => h) ?_
    (repeat (first | refine x_p (kk := ?_) | refine x_n (kk := ?_) | refine x_a (kk := ?_) | refine x_l (kk := ?_) | refine x_M (kk := ?_) | refine x_m (kk := ?_) | refine x_e (kk := ?_) | refine x_E (kk := ?_) | refine x_T (kk := ?_) | refine x_F (kk := ?_) | refine x_I (kk := fun _ => ?_) | refine x_J (kk := fun _ => ?_) | refine x_K (kk := fun _ => ?_) | refine x_L (kk := fun _ => ?_) | refine x_k (kk := fun _ _ _ _ _ => ?_) | refine x_w (kk := fun _ _ => ?_) | refine x_s (kk := fun _ _ _ _ => ?_)))
    refine OrdA.wrO (os := os) rfl rfl rfl rfl rfl rfl rfl rfl rfl rfl rfl rfl rfl rfl (fun _ => rfl) rfl hO.oi (fun _ h => h) (by omega) (by omega) (fun w4 w5 p hF4 hO5 hk5 hz5 => ?_)
    refine VW.Ord.wrO (os := os.set ((a : Int) + i).toNat (os.getD ((b : Int) + i).toNat 0)) rfl rfl rfl rfl rfl rfl rfl rfl rfl rfl rfl rfl rfl rfl (fun _ => rfl) rfl hO5 (by omega) (by rw [List.length_set]; omega) (fun _ _ _ h => h) (fun w6 p6 hO6 hk6 hz6 => ?_)
    refine VW.Ord.nil ?_
    replace hO6 := hO.wr hGs hF4 hk5 hk6 hO6
    rw [show ((a : Int) + i).toNat = a + i by omega, show ((b : Int) + i).toNat = b + i by omega] at hO6
    (repeat (first | with_reducible refine W.seq ?_ | with_reducible refine Ops.nil ?_ | with_reducible refine W.region ?_ | refine z_p (kk := ?_) | refine z_a (kk := ?_) | refine z_y (kk := ?_) | refine z_n (kk := ?_) | refine z_u (kk := ?_) | with_reducible refine W.skip ?_ | with_reducible refine W.endb ?_ | with_reducible refine W.block ?_ | refine W.exit rfl ?_ | refine z_l (kk := ?_) | refine z_f (kk := ?_) | refine z_M (kk := ?_) | refine z_m (kk := ?_) | refine z_e (kk := ?_) | refine z_E (kk := ?_) | refine z_d (kk := ?_) | refine z_I (kk := fun _ => ?_) | refine z_J (kk := fun _ => ?_) | refine z_K (kk := fun _ => ?_) | refine z_L (kk := fun _ => ?_) | refine z_T (kk := ?_) | refine z_F (kk := ?_) | refine z_k (kk := fun _ _ _ _ _ => ?_) | refine z_w (kk := fun _ _ => ?_) | refine z_s (kk := fun _ _ _ _ => ?_) | refine z_D (kk := ?_) | refine z_g (kk := ?_) | refine z_h (kk := ?_)))
    exact W.endl ⟨_, _, ⟨⟨i + 1, _, rfl, by omega, rfl, hO6, hS'⟩, by omega⟩, (by repeat (first | exact trivial | refine And.intro rfl ?_))⟩
  · have hi : i = n := by omega
    subst hi
    (repeat (first | with_reducible refine W.seq ?_ | with_reducible refine Ops.nil ?_ | with_reducible refine W.region ?_ | refine z_p (kk := ?_) | refine z_a (kk := ?_) | refine z_y (kk := ?_) | refine z_n (kk := ?_) | refine z_u (kk := ?_) | with_reducible refine W.skip ?_ | with_reducible refine W.endb ?_ | with_reducible refine W.block ?_ | refine W.exit rfl ?_ | refine z_l (kk := ?_) | refine z_f (kk := ?_) | refine z_M (kk := ?_) | refine z_m (kk := ?_) | refine z_e (kk := ?_) | refine z_E (kk := ?_) | refine z_d (kk := ?_) | refine z_I (kk := fun _ => ?_) | refine z_J (kk := fun _ => ?_) | refine z_K (kk := fun _ => ?_) | refine z_L (kk := fun _ => ?_) | refine z_T (kk := ?_) | refine z_F (kk := ?_) | refine z_k (kk := fun _ _ _ _ _ => ?_) | refine z_w (kk := fun _ _ => ?_) | refine z_s (kk := fun _ _ _ _ => ?_) | refine z_D (kk := ?_) | refine z_g (kk := ?_) | refine z_h (kk := ?_)))
    exact W.fend rfl ⟨os, hO, hS⟩
set_option maxHeartbeats 4000000 in
theorem rotate_c {G : World → Prop} {wB w : World} {ov vf : Value} {os0 : List Int} {a m b : Nat} (hO : OH G wB w ov os0) (hGs : Gst G ov) (ham : a < m) (hmb : m < b) (hb : b ≤ os0.length) (hl : os0.length ≤ 1000) :
    Calls Try.prog 119 #[ov, .int .i64 a, .int .i64 m, .int .i64 b, vf] w (Ret fun r w' => ∃ os, OH G wB w' ov os ∧ SegP a b os0 os ∧ ∀ x : Nat, a ≤ x → x < b → os.getD x 0 = rotT os0 a m b x) := by
  obtain ⟨A, c, rfl⟩ := hO.sh
  refine calls_W (vs := [_, _, _, _, _]) Try.func119 rfl (by kernel_rfl) rfl ?_
  (repeat (first | with_reducible refine W.seq ?_ | with_reducible refine Ops.nil ?_ | with_reducible refine W.region ?_ | refine z_p (kk := ?_) | refine z_a (kk := ?_) | refine z_y (kk := ?_) | refine z_n (kk := ?_) | refine z_u (kk := ?_) | with_reducible refine W.skip ?_ | with_reducible refine W.endb ?_ | with_reducible refine W.block ?_ | refine W.exit rfl ?_ | refine z_l (kk := ?_) | refine z_f (kk := ?_) | refine z_M (kk := ?_) | refine z_m (kk := ?_) | refine z_e (kk := ?_) | refine z_E (kk := ?_) | refine z_d (kk := ?_) | refine z_I (kk := fun _ => ?_) | refine z_J (kk := fun _ => ?_) | refine z_K (kk := fun _ => ?_) | refine z_L (kk := fun _ => ?_) | refine z_T (kk := ?_) | refine z_F (kk := ?_) | refine z_k (kk := fun _ _ _ _ _ => ?_) | refine z_w (kk := fun _ _ => ?_) | refine z_s (kk := fun _ _ _ _ => ?_) | refine z_D (kk := ?_) | refine z_g (kk := ?_) | refine z_h (kk := ?_)))
  refine W.loop (fun z ρ w1 => ∃ (i j : Nat) (os : List Int), z = i + j ∧ 0 < i ∧ 0 < j ∧ ρ = [(0, .slice A os0.length c), (2, .int .i64 m), (4, vf), (10, .int .i64 i), (11, .int .i64 j)] ∧ OH G wB w1 (.slice A os0.length c) os ∧ Rot (rotT os0 a m b) a m b i j os0 os)
    ⟨_, _, ⟨m - a, b - m, os0, rfl, by omega, by omega, by rw [show ((m - a : Nat) : Int) = (m : Int) - a by omega, show ((b - m : Nat) : Int) = (b : Int) - m by omega], hO, Rot.start os0 (by omega) (by omega)⟩, (by repeat (first | exact trivial | refine And.intro rfl ?_))⟩ ?_
  clear hO
  rintro z ρ w1 ⟨i, j, os, rfl, hi, hj, rfl, hO, hR⟩
  have hol : os.length = os0.length := hR.seg.len
  have ia := hR.ia
  have jb := hR.jb
  have e1 : (m : Int) - i = ((m - i : Nat) : Int) := by omega
  (repeat (first | with_reducible refine W.seq ?_ | with_reducible refine Ops.nil ?_ | with_reducible refine W.region ?_ | refine z_p (kk := ?_) | refine z_a (kk := ?_) | refine z_y (kk := ?_) | refine z_n (kk := ?_) | refine z_u (kk := ?_) | with_reducible refine W.skip ?_ | with_reducible refine W.endb ?_ | with_reducible refine W.block ?_ | refine W.exit rfl ?_ | refine z_l (kk := ?_) | refine z_f (kk := ?_) | refine z_M (kk := ?_) | refine z_m (kk := ?_) | refine z_e (kk := ?_) | refine z_E (kk := ?_) | refine z_d (kk := ?_) | refine z_I (kk := fun _ => ?_) | refine z_J (kk := fun _ => ?_) | refine z_K (kk := fun _ => ?_) | refine z_L (kk := fun _ => ?_) | refine z_T (kk := ?_) | refine z_F (kk := ?_) | refine z_k (kk := fun _ _ _ _ _ => ?_) | refine z_w (kk := fun _ _ => ?_) | refine z_s (kk := fun _ _ _ _ => ?_) | refine z_D (kk := ?_) | refine z_g (kk := ?_) | refine z_h (kk := ?_)))
  (first | refine W.condD rfl (fun hc => ?_) (fun hc => ?_) | refine W.condE rfl (fun hc => ?_) (fun hc => ?_) | refine W.condN rfl (fun hc => ?_) (fun hc => ?_) | refine W.cond rfl (fun hc => ?_) (fun hc => ?_))
  · have hij : i ≠ j := by omega
    (repeat (first | with_reducible refine W.seq ?_ | with_reducible refine Ops.nil ?_ | with_reducible refine W.region ?_ | refine z_p (kk := ?_) | refine z_a (kk := ?_) | refine z_y (kk := ?_) | refine z_n (kk := ?_) | refine z_u (kk := ?_) | with_reducible refine W.skip ?_ | with_reducible refine W.endb ?_ | with_reducible refine W.block ?_ | refine W.exit rfl ?_ | refine z_l (kk := ?_) | refine z_f (kk := ?_) | refine z_M (kk := ?_) | refine z_m (kk := ?_) | refine z_e (kk := ?_) | refine z_E (kk := ?_) | refine z_d (kk := ?_) | refine z_I (kk := fun _ => ?_) | refine z_J (kk := fun _ => ?_) | refine z_K (kk := fun _ => ?_) | refine z_L (kk := fun _ => ?_) | refine z_T (kk := ?_) | refine z_F (kk := ?_) | refine z_k (kk := fun _ _ _ _ _ => ?_) | refine z_w (kk := fun _ _ => ?_) | refine z_s (kk := fun _ _ _ _ => ?_) | refine z_D (kk := ?_) | refine z_g (kk := ?_) | refine z_h (kk := ?_)))
    (first | refine W.condD rfl (fun hc => ?_) (fun hc => ?_) | refine W.condE rfl (fun hc => ?_) (fun hc => ?_) | refine W.condN rfl (fun hc => ?_) (fun hc => ?_) | refine W.cond rfl (fun hc => ?_) (fun hc => ?_))
    · have hlt : j < i := by omega
      have hcl := swapRange_c (vf := vf) (a := m - i) (b := m) (n := j) hO hGs (by omega) (by omega) (by omega)
      rw [← e1] at hcl
      (repeat (first | with_reducible refine W.seq ?_ | with_reducible refine Ops.nil ?_ | with_reducible refine W.region ?_ | refine z_p (kk := ?_) | refine z_a (kk := ?_) | refine z_y (kk := ?_) | refine z_n (kk := ?_) | refine z_u (kk := ?_) | with_reducible refine W.skip ?_ | with_reducible refine W.endb ?_ | with_reducible refine W.block ?_ | refine W.exit rfl ?_ | refine z_l (kk := ?_) | refine z_f (kk := ?_) | refine z_M (kk := ?_) | refine z_m (kk := ?_) | refine z_e (kk := ?_) | refine z_E (kk := ?_) | refine z_d (kk := ?_) | refine z_I (kk := fun _ => ?_) | refine z_J (kk := fun _ => ?_) | refine z_K (kk := fun _ => ?_) | refine z_L (kk := fun _ => ?_) | refine z_T (kk := ?_) | refine z_F (kk := ?_) | refine z_k (kk := fun _ _ _ _ _ => ?_) | refine z_w (kk := fun _ _ => ?_) | refine z_s (kk := fun _ _ _ _ => ?_) | refine z_D (kk := ?_) | refine z_g (kk := ?_) | refine z_h (kk := ?_)))
      refine Ops.call rfl rfl rfl rfl rfl hcl (fun v w2 hR2 => ?_)
      obtain ⟨os2, hO2, hS2⟩ := hR2
      have hR' := hR.left hlt hS2
      (repeat (first | with_reducible refine W.seq ?_ | with_reducible refine Ops.nil ?_ | with_reducible refine W.region ?_ | refine z_p (kk := ?_) | refine z_a (kk := ?_) | refine z_y (kk := ?_) | refine z_n (kk := ?_) | refine z_u (kk := ?_) | with_reducible refine W.skip ?_ | with_reducible refine W.endb ?_ | with_reducible refine W.block ?_ | refine W.exit rfl ?_ | refine z_l (kk := ?_) | refine z_f (kk := ?_) | refine z_M (kk := ?_) | refine z_m (kk := ?_) | refine z_e (kk := ?_) | refine z_E (kk := ?_) | refine z_d (kk := ?_) | refine z_I (kk := fun _ => ?_) | refine z_J (kk := fun _ => ?_) | refine z_K (kk := fun _ => ?_) | refine z_L (kk := fun _ => ?_) | refine z_T (kk := ?_) | refine z_F (kk := ?_) | refine z_k (kk := fun _ _ _ _ _ => ?_) | refine z_w (kk := fun _ _ => ?_) | refine z_s (kk := fun _ _ _ _ => ?_) | refine z_D (kk := ?_) | refine z_g (kk := ?_) | refine z_h (kk := ?_)))
      exact W.endl ⟨_, _, ⟨⟨i - j, j, os2, rfl, by omega, hj, by rw [show ((i - j : Nat) : Int) = (i : Int) - j by omega], hO2, hR'⟩, by omega⟩, (by repeat (first | exact trivial | refine And.intro rfl ?_))⟩
    · have hlt : i < j := by omega
      have hcl := swapRange_c (vf := vf) (a := m - i) (b := m + j - i) (n := i) hO hGs (by omega) (by omega) (by omega)
      rw [← e1, show ((m + j - i : Nat) : Int) = (m : Int) + j - i by omega] at hcl
      (repeat (first | with_reducible refine W.seq ?_ | with_reducible refine Ops.nil ?_ | with_reducible refine W.region ?_ | refine z_p (kk := ?_) | refine z_a (kk := ?_) | refine z_y (kk := ?_) | refine z_n (kk := ?_) | refine z_u (kk := ?_) | with_reducible refine W.skip ?_ | with_reducible refine W.endb ?_ | with_reducible refine W.block ?_ | refine W.exit rfl ?_ | refine z_l (kk := ?_) | refine z_f (kk := ?_) | refine z_M (kk := ?_) | refine z_m (kk := ?_) | refine z_e (kk := ?_) | refine z_E (kk := ?_) | refine z_d (kk := ?_) | refine z_I (kk := fun _ => ?_) | refine z_J (kk := fun _ => ?_) | refine z_K (kk := fun _ => ?_) | refine z_L (kk := fun _ => ?_) | refine z_T (kk := ?_) | refine z_F (kk := ?_) | refine z_k (kk := fun _ _ _ _ _ => ?_) | refine z_w (kk := fun _ _ => ?_) | refine z_s (kk := fun _ _ _ _ => ?_) | refine z_D (kk := ?_) | refine z_g (kk := ?_) | refine z_h (kk := ?_)))
      refine Ops.call rfl rfl rfl rfl rfl hcl (fun v w2 hR2 => ?_)
      obtain ⟨os2, hO2, hS2⟩ := hR2
      have hR' := hR.right hlt hS2
      (repeat (first | with_reducible refine W.seq ?_ | with_reducible refine Ops.nil ?_ | with_reducible refine W.region ?_ | refine z_p (kk := ?_) | refine z_a (kk := ?_) | refine z_y (kk := ?_) | refine z_n (kk := ?_) | refine z_u (kk := ?_) | with_reducible refine W.skip ?_ | with_reducible refine W.endb ?_ | with_reducible refine W.block ?_ | refine W.exit rfl ?_ | refine z_l (kk := ?_) | refine z_f (kk := ?_) | refine z_M (kk := ?_) | refine z_m (kk := ?_) | refine z_e (kk := ?_) | refine z_E (kk := ?_) | refine z_d (kk := ?_) | refine z_I (kk := fun _ => ?_) | refine z_J (kk := fun _ => ?_) | refine z_K (kk := fun _ => ?_) | refine z_L (kk := fun _ => ?_) | refine z_T (kk := ?_) | refine z_F (kk := ?_) | refine z_k (kk := fun _ _ _ _ _ => ?_) | refine z_w (kk := fun _ _ => ?_) | refine z_s (kk := fun _ _ _ _ => ?_) | refine z_D (kk := ?_) | refine z_g (kk := ?_) | refine z_h (kk := ?_)))
      exact W.endl ⟨_, _, ⟨⟨i, j - i, os2, rfl, hi, by omega, by rw [show ((j - i : Nat) : Int) = (j : Int) - i by omega], hO2, hR'⟩, by omega⟩, (by repeat (first | exact trivial | refine And.intro rfl ?_))⟩
  · have hij : i = j := by omega
    subst hij
    have hcl := swapRange_c (vf := vf) (a := m - i) (b := m) (n := i) hO hGs (by omega) (by omega) (by omega)
    rw [← e1] at hcl
    (repeat (first | with_reducible refine W.seq ?_ | with_reducible refine Ops.nil ?_ | with_reducible refine W.region ?_ | refine z_p (kk := ?_) | refine z_a (kk := ?_) | refine z_y (kk := ?_) | refine z_n (kk := ?_) | refine z_u (kk := ?_) | with_reducible refine W.skip ?_ | with_reducible refine W.endb ?_ | with_reducible refine W.block ?_ | refine W.exit rfl ?_ | refine z_l (kk := ?_) | refine z_f (kk := ?_) | refine z_M (kk := ?_) | refine z_m (kk := ?_) | refine z_e (kk := ?_) | refine z_E (kk := ?_) | refine z_d (kk := ?_) | refine z_I (kk := fun _ => ?_) | refine z_J (kk := fun _ => ?_) | refine z_K (kk := fun _ => ?_) | refine z_L (kk := fun _ => ?_) | refine z_T (kk := ?_) | refine z_F (kk := ?_) | refine z_k (kk := fun _ _ _ _ _ => ?_) | refine z_w (kk := fun _ _ => ?_) | refine z_s (kk := fun _ _ _ _ => ?_) | refine z_D (kk := ?_) | refine z_g (kk := ?_) | refine z_h (kk := ?_)))
    refine Ops.call rfl rfl rfl rfl rfl hcl (fun v w2 hR2 => ?_)
    obtain ⟨os2, hO2, hS2⟩ := hR2
    have hR' := hR.done hS2
    (repeat (first | with_reducible refine W.seq ?_ | with_reducible refine Ops.nil ?_ | with_reducible refine W.region ?_ | refine z_p (kk := ?_) | refine z_a (kk := ?_) | refine z_y (kk := ?_) | refine z_n (kk := ?_) | refine z_u (kk := ?_) | with_reducible refine W.skip ?_ | with_reducible refine W.endb ?_ | with_reducible refine W.block ?_ | refine W.exit rfl ?_ | refine z_l (kk := ?_) | refine z_f (kk := ?_) | refine z_M (kk := ?_) | refine z_m (kk := ?_) | refine z_e (kk := ?_) | refine z_E (kk := ?_) | refine z_d (kk := ?_) | refine z_I (kk := fun _ => ?_) | refine z_J (kk := fun _ => ?_) | refine z_K (kk := fun _ => ?_) | refine z_L (kk := fun _ => ?_) | refine z_T (kk := ?_) | refine z_F (kk := ?_) | refine z_k (kk := fun _ _ _ _ _ => ?_) | refine z_w (kk := fun _ _ => ?_) | refine z_s (kk := fun _ _ _ _ => ?_) | refine z_D (kk := ?_) | refine z_g (kk := ?_) | refine z_h (kk := ?_)))
    exact W.fend rfl ⟨os2, hO2, hR'⟩
end Go.Proofs.Ytdiljpnfochndaa
/- int(uint(x) >> 1) -/
namespace Go.Proofs.Ytdiljpnfochndaa.VW
open Go Go.RowKit
section
variable {P : Program} [hT : Tab P] {n : Nat} {ds : List Deferred} {Φ : Post} {k : List It} {ρ : E} {w : World} {all : Array Oper} {l : List Oper} {md : Option (List Oper)}
theorem wrapU64 {s : Nat} (h : s < 9223372036854775808) : IntKind.u64.wrap (s : Int) = s := by
  have : (s : Int) % 18446744073709551616 = s := by omega
  simp [IntKind.wrap, IntKind.bits, IntKind.signed, this]
theorem wrapI64 {s : Nat} (h : s < 9223372036854775808) : IntKind.i64.wrap (s : Int) = s := by
  have : (s : Int) % 18446744073709551616 = s := by omega
  simp [IntKind.wrap, IntKind.bits, IntKind.signed, this]
  omega
theorem Ops.half {o1 o2 o3 : Oper} {d1 d2 d3 s1 t1 t2 t2' s3 t3 : Nat} {x y : Operand} {s : Nat} (h1 : o1.op = .convert s1 t1 x) (hd1 : o1.dst = some d1) (hg1 : o1.guard = none) (e1 : tyD P s1 = some (.int .i64)) (e2 : tyD P t1 = some (.int .u64)) (hx : ev ρ x = some (.int .i64 (s : Int)))
    (h2 : o2.op = .binOp .shr t2 (.tmp d1) y t2') (hd2 : o2.dst = some d2) (hg2 : gdB all ((d1, .int .u64 (IntKind.u64.wrap (s : Int))) :: ρ) o2.guard = some true) (hy : ev ((d1, .int .u64 (IntKind.u64.wrap (s : Int))) :: ρ) y = some (.int .u64 1))
    (h3 : o3.op = .convert s3 t3 (.tmp d2)) (hd3 : o3.dst = some d3) (hg3 : o3.guard = none) (e3 : tyD P s3 = some (.int .u64)) (e4 : tyD P t3 = some (.int .i64)) (hs : s < 9223372036854775808)
    (hk : Ops md P n ds all k Φ l ((d3, .int .i64 ((s / 2 : Nat) : Int)) :: (d2, .int .u64 ((s / 2 : Nat) : Int)) :: (d1, .int .u64 (s : Int)) :: ρ) w) : Ops md P n ds all k Φ (o1 :: o2 :: o3 :: l) ρ w := by
  have w1 := wrapU64 hs
  rw [w1] at hg2 hy
  refine Ops.cv h1 hd1 hg1 e1 e2 hx ?_
  rw [w1]
  have w2 : Int.fdiv (s : Int) 2 = ((s / 2 : Nat) : Int) := by rw [Int.fdiv_eq_ediv_of_nonneg _ (by omega)]; rfl
  refine Ops.evG hd2 hg2 rfl (EV.bsh (v := ((s / 2 : Nat) : Int)) h2 (ev_top _ _ _) hy ?_) ?_
  · simp [bsh, IntKind.bits, w2]
  refine Ops.cv h3 hd3 hg3 e3 e4 (ev_top _ _ _) ?_
  rw [wrapI64 (by omega)]
  exact hk
end
end Go.Proofs.Ytdiljpnfochndaa.VW
