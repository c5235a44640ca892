/- A part of the walk: what this seat's statements share. -/
import Derived.Test.YtdiljpnfochndaaZHD
set_option linter.unusedSectionVars false
set_option linter.unusedVariables false
set_option linter.unusedSimpArgs false
namespace Go.Proofs.Ytdiljpnfochndaa
open Go Go.RowKit Go.Proofs.Ytdiljpnfochndaa.VW
open Go.Proofs.Ytdiljpnfochndaa.HP (Nd kid wor leafB rd evB TF far Ef ed pickF joinF NE NeedP GoodE)
attribute [local irreducible] W Ops
def Lf (w0 w : World) (ov lv : Value) (xs : List Int) : Prop := w.ownsRow 0 3 1 lv xs.length (xs.map (Value.int .i64)) ∧ ∀ k, lv.ownBlock = some k → w0.heap.size ≤ k ∧ ov.ownBlock ≠ some k
theorem Lf.kp {w0 w w' : World} {ov lv : Value} {xs : List Int} {S : Nat → Prop} (h : Lf w0 w ov lv xs) (k : Kp S w w') (hs : ∀ i, S i → w.heap.size ≤ i ∨ ov.ownBlock = some i) : Lf w0 w' ov lv xs :=
  ⟨own_kp h.1 k (fun i hi e => by rcases hs i e with h1 | h1; have := (h.1.lt i hi).2; omega; exact (h.2 i hi).2 h1), h.2⟩
theorem Lf.nil (w0 w : World) (ov : Value) : Lf w0 w ov (.slice none 0 0) [] := ⟨World.ownsRow_nil w 0 3 1, fun k hk => by simp [Value.ownBlock] at hk⟩
theorem Lf.sl {w0 w : World} {ov lv : Value} {xs : List Int} (h : Lf w0 w ov lv xs) : SlI w lv xs := own_sl (z := (0 : Int)) h.1
def EffC (w0 w : World) (ov : Value) (cs : List Value) (es : List Ef) : Prop :=
  w.ownsRow 0 84 2 ov es.length cs ∧ ∀ i, i < es.length → cs.getD (i * 2) undef = .int .i64 (es.getD i (0, [])).1 ∧ Lf w0 w ov (cs.getD (i * 2 + 1) undef) (es.getD i (0, [])).2
structure Eff (w0 w : World) (ov : Value) (es : List Ef) : Prop where
  bel : Below w0.heap.size w0 w
  ge : ∀ k, ov.ownBlock = some k → w0.heap.size ≤ k
  out : ∃ cs, EffC w0 w ov cs es
theorem Eff.kp {w0 w w' : World} {ov : Value} {es : List Ef} {S : Nat → Prop} (h : Eff w0 w ov es) (k : Kp S w w') (hs : ∀ i, S i → w.heap.size ≤ i) : Eff w0 w' ov es := by
  obtain ⟨cs, h1, h2⟩ := h.out
  exact ⟨Below.at_ h.bel k (fun i hi => by have := h.bel.size; have := hs i hi; omega), h.ge, cs, own_kp h1 k (fun i hi e => by have := (h1.lt i hi).2; have := hs i e; omega), fun i hi => ⟨(h2 i hi).1, (h2 i hi).2.kp k (fun j hj => .inl (hs j hj))⟩⟩
theorem lgetD_set_eq {α : Type} {cs : List α} {j : Nat} {u z : α} (h : j < cs.length) : (cs.set j u).getD j z = u := by rw [List.getD_eq_getElem?_getD, List.getElem?_set_self h]; rfl
theorem lgetD_set_ne {α : Type} {cs : List α} {j i : Nat} {u z : α} (h : j ≠ i) : (cs.set j u).getD i z = cs.getD i z := by rw [List.getD_eq_getElem?_getD, List.getElem?_set_ne h, ← List.getD_eq_getElem?_getD]
theorem Eff.setA {w0 w w' : World} {ov lv : Value} {es : List Ef} {cs : List Value} {q : Nat} {m : Int} {xs : List Int} (h : Eff w0 w ov es) (hc : EffC w0 w ov cs es) (hq : q < es.length)
    (hown : w'.ownsRow 0 84 2 ov es.length ((cs.set (q * 2) (.int .i64 m)).set (q * 2 + 1) lv)) (k : Kp (fun b => ov.ownBlock = some b) w w') (hl : Lf w0 w ov lv xs) : Eff w0 w' ov (es.set q (m, xs)) := by
  have hcl : cs.length = es.length * 2 := hc.1.1
  refine ⟨Below.at_ h.bel k (fun i hi => h.ge i hi), h.ge, _, by rw [List.length_set]; exact hown, fun i hi => ?_⟩
  rw [List.length_set] at hi
  by_cases e : q = i
  · subst e
    rw [lgetD_set_eq hq, lgetD_set_ne (by omega), lgetD_set_eq (by omega), lgetD_set_eq (by simp; omega)]
    exact ⟨rfl, hl.kp k (fun j hj => .inr hj)⟩
  · rw [lgetD_set_ne e, lgetD_set_ne (by omega), lgetD_set_ne (by omega), lgetD_set_ne (by omega), lgetD_set_ne (by omega)]
    exact ⟨(hc.2 i hi).1, (hc.2 i hi).2.kp k (fun j hj => .inr hj)⟩
theorem Eff.setM {w0 w w' : World} {ov : Value} {es : List Ef} {cs : List Value} {q : Nat} {m : Int} (h : Eff w0 w ov es) (hc : EffC w0 w ov cs es) (hq : q < es.length)
    (hown : w'.ownsRow 0 84 2 ov es.length (cs.set (q * 2 + 0) (.int .i64 m))) (k : Kp (fun b => ov.ownBlock = some b) w w') : Eff w0 w' ov (es.set q (m, (es.getD q (0, [])).2)) := by
  have hcl : cs.length = es.length * 2 := hc.1.1
  refine ⟨Below.at_ h.bel k (fun i hi => h.ge i hi), h.ge, _, by rw [List.length_set]; exact hown, fun i hi => ?_⟩
  rw [List.length_set] at hi
  by_cases e : q = i
  · subst e
    rw [lgetD_set_eq hq, Nat.add_zero, lgetD_set_eq (by omega), lgetD_set_ne (by omega)]
    exact ⟨rfl, (hc.2 q hi).2.kp k (fun j hj => .inr hj)⟩
  · rw [lgetD_set_ne e, lgetD_set_ne (by omega), lgetD_set_ne (by omega)]
    exact ⟨(hc.2 i hi).1, (hc.2 i hi).2.kp k (fun j hj => .inr hj)⟩
theorem Eff.setL {w0 w w' : World} {ov lv : Value} {es : List Ef} {cs : List Value} {q : Nat} {xs : List Int} (h : Eff w0 w ov es) (hc : EffC w0 w ov cs es) (hq : q < es.length)
    (hown : w'.ownsRow 0 84 2 ov es.length (cs.set (q * 2 + 1) lv)) (k : Kp (fun b => ov.ownBlock = some b) w w') (hl : Lf w0 w ov lv xs) : Eff w0 w' ov (es.set q ((es.getD q (0, [])).1, xs)) := by
  have hcl : cs.length = es.length * 2 := hc.1.1
  refine ⟨Below.at_ h.bel k (fun i hi => h.ge i hi), h.ge, _, by rw [List.length_set]; exact hown, fun i hi => ?_⟩
  rw [List.length_set] at hi
  by_cases e : q = i
  · subst e
    rw [lgetD_set_eq hq, lgetD_set_eq (by omega), lgetD_set_ne (by omega)]
    exact ⟨(hc.2 q hi).1, hl.kp k (fun j hj => .inr hj)⟩
  · rw [lgetD_set_ne e, lgetD_set_ne (by omega), lgetD_set_ne (by omega)]
    exact ⟨(hc.2 i hi).1, (hc.2 i hi).2.kp k (fun j hj => .inr hj)⟩
theorem Lf.oneCell {w0 w : World} {ov lv : Value} {xs : List Int} (h : Lf w0 w ov lv xs) : lv.oneCell' = true := by
  obtain ⟨A, c, rfl⟩ := Sl.sl h.sl
  rfl
/-- What the nodes from m on hold. -/
structure NInvE (l : List Nd) (dep : List Int) (mx : Bool) (lf : Int → Int) (m : Nat) (es : List Ef) : Prop where
  len : es.length = l.length
  eq : ∀ j : Nat, m ≤ j → j < l.length → es.getD j (0, []) = NE l dep mx lf es j
  good : ∀ j : Nat, m ≤ j → j < l.length → GoodE l j (es.getD j (0, [])).2
  bd : ∀ j : Nat, m ≤ j → j < l.length → 0 ≤ (es.getD j (0, [])).1 ∧ (es.getD j (0, [])).1 ≤ far
  zero : ∀ j : Nat, j < m → es.getD j (0, []) = (0, [])
theorem NInvE.kids {l : List Nd} {dep : List Int} {mx : Bool} {lf : Int → Int} {m : Nat} {es : List Ef} (h : NInvE l dep mx lf m es) (hT : TF l dep) {q : Nat} (hq : q < l.length) (hm : m ≤ q + 1) : (∀ c ∈ kid l q, GoodE l c (ed es c).2) ∧ ∀ c ∈ kid l q, 0 ≤ (ed es c).1 ∧ (ed es c).1 ≤ far := by
  refine ⟨fun c hc => ?_, fun c hc => ?_⟩
  · obtain ⟨h1, h2⟩ := Go.Proofs.Ytdiljpnfochndaa.HP.mem_kid hT hq hc
    have := h.good c.toNat (by omega) (by omega)
    rw [show ((c.toNat : Nat) : Int) = c by omega] at this
    exact this
  · obtain ⟨h1, h2⟩ := Go.Proofs.Ytdiljpnfochndaa.HP.mem_kid hT hq hc
    exact h.bd c.toNat (by omega) (by omega)
theorem NInvE.set {l : List Nd} {dep : List Int} {mx : Bool} {lf : Int → Int} {q : Nat} {es es' : List Ef} {x : Ef} (h : NInvE l dep mx lf (q + 1) es) (hT : TF l dep) (hq : q < l.length) (hlf : leafB l q = true → 0 ≤ lf q ∧ lf q ≤ far) (hx : x = NE l dep mx lf es q) (he : es' = es.set q x) : NInvE l dep mx lf q es' := by
  subst he
  obtain ⟨hk1, hk2⟩ := h.kids hT hq (Nat.le_refl _)
  have hlen := h.len
  have hc : ∀ j : Nat, q ≤ j → j < l.length → NE l dep mx lf (es.set q x) j = NE l dep mx lf es j := fun j h1 h2 => Go.Proofs.Ytdiljpnfochndaa.HP.NE_congr hT h2 fun i hi hil => lgetD_set_ne (by omega)
  refine ⟨by simpa using hlen, ?_, ?_, ?_, ?_⟩
  · intro j h1 h2
    rw [hc j h1 h2]
    by_cases e : q = j
    · subst e; rw [lgetD_set_eq (by omega)]; exact hx
    · rw [lgetD_set_ne e]; exact h.eq j (by omega) h2
  · intro j h1 h2
    by_cases e : q = j
    · subst e; rw [lgetD_set_eq (by omega), hx]; exact Go.Proofs.Ytdiljpnfochndaa.HP.NE_good hT hq hk1
    · rw [lgetD_set_ne e]; exact h.good j (by omega) h2
  · intro j h1 h2
    by_cases e : q = j
    · subst e; rw [lgetD_set_eq (by omega), hx]; exact Go.Proofs.Ytdiljpnfochndaa.HP.NE_bd hlf hk2
    · rw [lgetD_set_ne e]; exact h.bd j (by omega) h2
  · intro j h1
    rw [lgetD_set_ne (by omega)]
    exact h.zero j (by omega)
theorem Eff.frame {w0 w w' : World} {ov : Value} {es : List Ef} {b t : Nat} {cs : Array Value} (h : Eff w0 w ov es) (hb : Blk w b cs t) (hlt : b < w0.heap.size) (k : Kp (fun b => ov.ownBlock = some b) w w') : Blk w' b cs t := hb.kp k (fun e => by have := h.ge b e; omega)
theorem mk2 {α : Type} (z0 z1 : α) (n i : Nat) (h : i < n * 2) : True := trivial
end Go.Proofs.Ytdiljpnfochndaa
