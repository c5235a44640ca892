/- A part of the walk: what this seat's statements share. -/
import Derived.Test.YtehjmakiljhjdaaZG8
import Derived.Test.YtehjmakiljhjdaaZG9
import Derived.Test.YtehjmakiljhjdaaZG5
import Derived.Test.YtehjmakiljhjdaaZG6
import Derived.Sort.Grow
import Derived.Deep.Draws
import Derived.Test.YtehjmakiljhjdaaZG3
import Derived.Test.YtehjmakiljhjdaaZG4
set_option linter.unusedVariables false
set_option linter.unusedSimpArgs false
set_option linter.unusedSectionVars false
/- Plain: the order in which the program visits all assignments. -/
namespace Go.Proofs.Ytehjmakiljhjdaa
open Go Go.RowKit Go.Proofs.Ytehjmakiljhjdaa.VW
/-- The visits of the first m holes. -/
def visJ (f : List Int → List (List Int)) (l : List Int) : Nat → List (List Int)
  | 0 => []
  | m + 1 => visJ f l m ++ if (m : Int) ∈ l then [] else f (l ++ [(m : Int)])
def visS (n : Nat) : Nat → List Int → List (List Int)
  | 0, l => [l]
  | k + 1, l => visJ (visS n k) l n
theorem mem_visJ {f : List Int → List (List Int)} {l x : List Int} : ∀ m, x ∈ visJ f l m ↔ ∃ j, j < m ∧ ¬ (j : Int) ∈ l ∧ x ∈ f (l ++ [(j : Int)])
  | 0 => by simp [visJ]
  | m + 1 => by
    simp only [visJ, List.mem_append, mem_visJ m]
    constructor
    · rintro (⟨j, h1, h2, h3⟩ | h)
      · exact ⟨j, by omega, h2, h3⟩
      · split at h
        · simp at h
        · rename_i hm
          exact ⟨m, by omega, hm, h⟩
    · rintro ⟨j, h1, h2, h3⟩
      by_cases e : j = m
      · subst e; right; rw [if_neg h2]; exact h3
      · exact .inl ⟨j, by omega, h2, h3⟩
theorem beg_snoc {l : List Int} {n i j : Nat} (h : Beg l n i) (hj : j < n) (hm : ¬ (j : Int) ∈ l) : Beg (l ++ [(j : Int)]) n (i + 1) := by
  obtain ⟨h1, h2, h3⟩ := h
  refine ⟨by simp [h1], fun x hx => ?_, List.nodup_append.2 ⟨h3, by simp, fun x hx y hy e => by simp at hy; subst hy; subst e; exact hm hx⟩⟩
  rcases List.mem_append.1 hx with h | h
  · exact h2 x h
  · simp at h; omega
theorem mem_visS {n : Nat} {x : List Int} : ∀ k l, l.length + k = n → Beg l n l.length → (x ∈ visS n k l ↔ Beg x n n ∧ x.take l.length = l)
  | 0, l, hl, hb => by
    simp only [visS, List.mem_singleton]
    constructor
    · rintro rfl
      exact ⟨by rw [show n = x.length by omega]; rw [show n = x.length by omega] at hb; exact hb, by simp⟩
    · rintro ⟨h1, h2⟩
      rw [← h2, List.take_of_length_le (by have := h1.1; omega)]
  | k + 1, l, hl, hb => by
    simp only [visS, mem_visJ]
    constructor
    · rintro ⟨j, j1, j2, j3⟩
      have hb' := beg_snoc hb j1 j2
      have hlen : (l ++ [(j : Int)]).length = l.length + 1 := by simp
      rw [mem_visS k _ (by rw [hlen]; omega) (by rw [hlen]; exact hb')] at j3
      refine ⟨j3.1, ?_⟩
      have := congrArg (List.take l.length) j3.2
      rw [hlen, List.take_take] at this
      simpa [Nat.min_eq_left (Nat.le_succ _)] using this
    · rintro ⟨h1, h2⟩
      have hA := asg_beg.2 h1
      have hxl := h1.1
      have hi : l.length < n := by omega
      have hnm := Asg.not_mem hA (i := l.length) (by omega)
      rw [h2] at hnm
      have hf := hA.funA hi
      rw [hf.1] at hnm
      refine ⟨funA x l.length, hf.2, hnm, ?_⟩
      have hlen : (l ++ [((funA x l.length : Nat) : Int)]).length = l.length + 1 := by simp
      rw [mem_visS k _ (by rw [hlen]; omega) (by rw [hlen]; exact beg_snoc hb hf.2 hnm)]
      refine ⟨h1, ?_⟩
      rw [hlen, take_succI (by omega), h2, hf.1]
theorem visS_take {n : Nat} {x l : List Int} {k : Nat} (hl : l.length + k = n) (hb : Beg l n l.length) (h : x ∈ visS n k l) : ∃ y, x = l ++ y := by
  have := (mem_visS k l hl hb).1 h
  exact ⟨x.drop l.length, by conv => lhs; rw [← List.take_append_drop l.length x, this.2]⟩
theorem visS_sorted {n : Nat} : ∀ k l, l.length + k = n → Beg l n l.length → (visS n k l).Pairwise fun x y => lexB x y = true
  | 0, l, _, _ => by simp [visS]
  | k + 1, l, hl, hb => by
    simp only [visS]
    have key : ∀ m, m ≤ n → (visJ (visS n k) l m).Pairwise fun x y => lexB x y = true := fun m => by
      induction m with
      | zero => intro _; exact .nil
      | succ m ih =>
        intro hm
        simp only [visJ]
        refine List.pairwise_append.2 ⟨ih (by omega), ?_, fun x hx y hy => ?_⟩
        · split
          · exact .nil
          · rename_i hn
            have hlen : (l ++ [(m : Int)]).length = l.length + 1 := by simp
            exact visS_sorted k _ (by rw [hlen]; omega) (by rw [hlen]; exact beg_snoc hb (by omega) hn)
        · obtain ⟨j, j1, j2, j3⟩ := (mem_visJ m).1 hx
          split at hy
          · simp at hy
          · rename_i hn
            have hlen : ∀ j : Nat, (l ++ [(j : Int)]).length = l.length + 1 := fun j => by simp
            obtain ⟨y1, rfl⟩ := visS_take (by rw [hlen]; omega) (by rw [hlen]; exact beg_snoc hb (by omega) j2) j3
            obtain ⟨y2, rfl⟩ := visS_take (by rw [hlen]; omega) (by rw [hlen]; exact beg_snoc hb (by omega) hn) hy
            rw [List.append_assoc, List.append_assoc, List.singleton_append, List.singleton_append]
            exact lexB_app (by omega) _ _
    exact key n (Nat.le_refl _)
theorem lexB_asymm {a b : List Int} (h : lexB a b = true) : ¬ lexB b a = true := fun h2 => by
  have := lexB_trans _ _ _ h h2
  rw [lexB_irr] at this
  cases this
theorem sorted_ext : ∀ l1 l2 : List (List Int), (l1.Pairwise fun x y => lexB x y = true) → (l2.Pairwise fun x y => lexB x y = true) → (∀ x, x ∈ l1 ↔ x ∈ l2) → l1 = l2
  | [], [], _, _, _ => rfl
  | [], y :: l2, _, _, h => by have := (h y).2 (by simp); simp at this
  | x :: l1, [], _, _, h => by have := (h x).1 (by simp); simp at this
  | x :: l1, y :: l2, h1, h2, h => by
    obtain ⟨a1, b1⟩ := List.pairwise_cons.1 h1
    obtain ⟨a2, b2⟩ := List.pairwise_cons.1 h2
    have e : x = y := by
      rcases List.mem_cons.1 ((h x).1 (by simp)) with e | e
      · exact e
      · rcases List.mem_cons.1 ((h y).2 (by simp)) with e2 | e2
        · exact e2.symm
        · exact absurd (a1 y e2) (lexB_asymm (a2 x e))
    subst e
    rw [sorted_ext l1 l2 b1 b2 (fun z => ?_)]
    constructor
    · intro hz
      rcases List.mem_cons.1 ((h z).1 (by simp [hz])) with e | e
      · subst e; have := a1 _ hz; rw [lexB_irr] at this; cases this
      · exact e
    · intro hz
      rcases List.mem_cons.1 ((h z).2 (by simp [hz])) with e | e
      · subst e; have := a2 _ hz; rw [lexB_irr] at this; cases this
      · exact e
theorem vis_all (n : Nat) : visS n n [] = allL n := by
  have hb : Beg [] n ([] : List Int).length := ⟨rfl, fun x hx => by simp at hx, by simp⟩
  refine sorted_ext _ _ (visS_sorted n [] (by simp) hb) allL_sorted (fun x => ?_)
  rw [mem_visS n [] (by simp) hb, mem_allL, asg_beg]
  simp
end Go.Proofs.Ytehjmakiljhjdaa
namespace Go.Proofs.Ytehjmakiljhjdaa.VW
open Go Go.RowKit
section
variable {P : Program} {n : Nat} {ds : List Deferred} {ρ : E} {w : World} {r : Option Nat}
theorem OpsI.yield1 {all : Array Oper} {Q : Post} {rest : List Oper} {o : Oper} {d : Nat} {x y1 : Operand} {l : Nat} {v1 : Value} {ts : Array TypeId}
    (ho : o.op = .call { callee := .value x, args := #[y1], argTypes := ts }) (hdst : o.dst = some d) (hlt : Nat.blt d n = true) (hg : o.guard = none)
    (hx : ev ρ x = some (.func (.yield l) #[] #[])) (hy1 : ev ρ y1 = some v1)
    (hyld : YieldAt (Fw r) 0 P l #[v1] w (fun e w' => e = .returned (.bool true) ∧ OpsI r P n ds all Q rest ((d, .bool true) :: ρ) w')) : OpsI r P n ds all Q (o :: rest) ρ w := by
  intro a hr hd
  unfold wpListIn
  rw [if_pos (by simp [Region.wanted, hg])]
  refine ⟨fun f _ => Fw_fn r f, ?_⟩
  rw [Oper.semAt_eq _ _ _ (by rw [ho]; simp)]
  obtain ⟨fn, tmps, assign, body, hrun, hround⟩ := hyld
  have he : (execOp a.eval o).run P w = .ok (.round l fn tmps assign body) w := by
    have q : #[y1].map a.eval = #[v1] := by simp only [List.map_toArray, List.map_cons, List.map_nil, hr.ev hy1]
    rw [← hrun]
    simp only [execOp, ho, resolve, q]
    simp [hr.ev hx, Deferred.ofValue, invoke]
  rw [he, Oper.uponIn_round]
  refine ⟨fun h => (by rw [Fw_dep] at h; cases h), RoundIn.mono hround fun e w' he => ?_⟩
  obtain ⟨rfl, h⟩ := he
  have hput : Rep n (a.put o.dst (.bool true)) ((d, .bool true) :: ρ) := by
    have := hr.put (d := o.dst) (by rw [hdst]; exact hlt) (.bool true)
    rw [hdst] at this ⊢
    exact this
  exact h _ hput (by rw [hdst]; exact hd)
end
section
variable {P : Program} [hT : Tab P] {n : Nat} {ds : List Deferred} {Φ : Post} {k : List It} {ρ : E} {w : World} {all : Array Oper} {l : List Oper} {md : Option (List Oper)} {F : World → Prop} {π : List Nat} {L : List Bool}
omit hT in
theorem OrdF.no {i d : Nat} {o : Oper} {c : Bool} (hp : freeB all L i = true) (ho : all[i]? = some o) (hd : o.dst = some d) (hg : gdB all ρ o.guard = some c) (hgc : c = false)
    (h : OrdF P n ds all k Φ F π (L.set i true) ((d, undef) :: ρ) w) : OrdF P n ds all k Φ F (i :: π) L ρ w := by
  subst hgc
  intro hs hdo hcl hΦ hF a hr hds
  simp only [freeB, Bool.and_eq_true] at hp
  have hdn : dOk n o.dst = true := by
    rw [List.all_eq_true] at hdo
    exact hdo o (by rw [← Array.getElem?_toList] at ho; exact List.mem_of_getElem? ho)
  refine wpAnyI_take ho hs hp.1 hp.2 (fun c a w hq => by obtain ⟨ρ', _, _, hq⟩ := hq; exact absurd hq (pan_no hΦ k c ρ' w)) (fun _ _ => Iff.rfl) (G := F) (fun _ _ _ _ h => h) hcl (v := undef) (.inr ⟨gdB_wanted hg hr, rfl⟩) hF ?_
  have := h hs hdo (by rw [← List.setIfInBounds_toArray]; exact hcl.set (by simpa using hp.2)) hΦ hF (a.put o.dst undef) (by have := hr.put hdn undef; rw [hd] at this ⊢; exact this) (by rw [hd]; exact hds)
  rw [List.setIfInBounds_toArray]
  exact this
omit hT in
theorem f_n {i d : Nat} {o : Oper} {c : Bool} (ho : all[i]? = some o := by exact rfl) (hd : o.dst = some d := by exact rfl) (hg : gdB all ρ o.guard = some c := by exact rfl) (hgc : c = false := by exact rfl) (hp : freeB all L i = true := by kernel_rfl)
    (kk : OrdF P n ds all k Φ F π (L.set i true) ((d, undef) :: ρ) w) : OrdF P n ds all k Φ F (i :: π) L ρ w := OrdF.no hp ho hd hg hgc kk
theorem EV.sl3 {o : Oper} {t e sz m c : Nat} {x y z : Operand} {A : Option Addr} (ho : o.op = .slice t x none (some y) (some z)) (ht : tyD P t = some (.slice e)) (hs : tyS P e = some sz) (hx : ev ρ x = some (.slice A m c)) (hy : ev ρ y = some (.int .i64 (m : Int))) (hz : ev ρ z = some (.int .i64 (m : Int))) (h1 : m ≤ c) :
    EV P n ρ w o (.slice A m m) := by
  intro a hr
  have e0 : A.map (fun p : Addr => p.add 0) = A := by cases A <;> simp [Addr.add]
  simp [execOp, ho, hr.ev hx, hr.ev hy, hr.ev hz, Instr.sliceAt, Instr.slice, Instr.sliceBounds, Instr.sliceBound, asIntOf, run_und (td_slice (tyD_ok ht)), run_sizeOf hs, h1, e0]
/-- append(s, x) where s has no room: the append alone. -/
theorem Ops.appG {α : Type} {enc : α → Value} {z0 : α} {o2 : Oper} {d2 t e by' m r : Nat} {y x : Operand} {u : α} {A : Option Addr} {z : Value} {xs : List α}
    (h2 : o2.op = .call { callee := .builtin .append, args := #[y, x], argTypes := #[t, t] }) (hd2 : o2.dst = some d2) (hg2 : o2.guard = none)
    (ht : tyD P t = some (.slice e)) (hs : tyS P e = some 1) (hb : tyB P e = some (by' + 1)) (hz : tyZ P e = some z) (hzs : z.cells.size = 1) (hx : ev ρ x = some (.slice (some ⟨r, 0, none⟩) 1 1)) (hy : ev ρ y = some (.slice A m m)) (hnil : A = none → m = 0)
    (hS : Sl enc z0 w (.slice A m m) xs) (hone : w.ownsRow 0 e 1 (.slice (some ⟨r, 0, none⟩) 1 1) 1 [enc u]) (hbytes : (xs.length + 1) * (by' + 1) ≤ 140737488355328)
    (hk : ∀ lv' w', OI e enc w w' lv' (xs ++ [u]) → Ops none P n ds all k Φ l ((d2, lv') :: ρ) w') : Ops none P n ds all k Φ (o2 :: l) ρ w := by
  obtain ⟨f, hi, h2', h3, h4⟩ := tyE_ok hs hb hz
  obtain ⟨hm', A', c', e1, hc⟩ := hS
  cases e1
  have hnews : ∀ j v, [enc u][j]? = some v → w.cell? ((⟨r, 0, none⟩ : Addr).add j) = some v := hone.cells (g := r) rfl
  have hl5 : xs.length + 1 ≤ (xs.length + 1) * (by' + 1) := Nat.le_mul_of_pos_right _ (by omega)
  have key : ∀ (cap : Nat) (cs : Array Value), cap = grownCap w (xs.length + 1) xs.length e → cs.size = cap → cs.toList.take (xs.length + 1) = (xs ++ [u]).map enc → OI e enc w (w.drew.alloc (.cells cs e)) (.slice (some ⟨w.heap.size, 0, none⟩) (xs.length + 1) cap) (xs ++ [u]) := by
    intro cap cs hcap hcs ht'
    have hal := mk_alloc w.drew (.cells cs e)
    have hd : Below w.heap.size w w.drew := Kp.below (kp_drew w) (Nat.le_refl _) (fun _ _ e => e)
    refine ⟨Below.put hd hal.kp (fun _ e => e.elim), ⟨by simp, .inr ⟨w.heap.size, cap, cs, by simp, Nat.zero_le _, hal.at_, ?_, ?_, by omega, by simpa using ht'⟩⟩, fun j hj => by simp [Value.ownBlock] at hj; omega⟩
    · rw [hcap]; have := grownCap_ge w (xs.length + 1) xs.length e; simpa using this
    · rw [hcap]; exact grownCap_le_maxLen w _ _ e (by simp only [maxLen]; omega)
  have hrun : ∃ v' w', (Builtin.append_ #[t, t] o2.type #[.slice A xs.length xs.length, .slice (some ⟨r, 0, none⟩) 1 1]).run P w = .ok v' w' ∧ OI e enc w w' v' (xs ++ [u]) := by
    cases A with
    | none =>
      have hx0 : xs = [] := List.eq_nil_of_length_eq_zero (hnil rfl)
      subst hx0
      have hr := run_append_nil (P := P) w t o2.type e f z (td_slice (tyD_ok ht)) hi h4 ⟨r, 0, none⟩ 1 1 [enc u] (by rw [h2']; rfl) hnews (by omega) (by omega) (by rw [h3]; simp only [List.length_nil, Nat.zero_add] at hbytes; omega)
      refine ⟨_, _, hr, ?_⟩
      have := key _ ([enc u].toArray ++ Builtin.zeroCells z.cells (grownCap w 1 0 e - 1)) rfl (by have := grownCap_ge w 1 0 e; simp [size_zeroCells, hzs]; omega) (by simp)
      simpa using this
    | some a =>
      have hold : ∀ j v, (xs.map enc)[j]? = some v → w.cell? (a.add j) = some v := fun j v hj => by
        rw [List.getElem?_map, Option.map_eq_some_iff] at hj
        obtain ⟨q, hq, rfl⟩ := hj
        have hjl := (List.getElem?_eq_some_iff.1 hq).1
        obtain ⟨a', ea, hcc⟩ := hc (by omega)
        cases ea
        rw [hcc j hjl]
        simp [List.getD_eq_getElem?_getD, hq]
      have hr := run_append_grow (P := P) w t o2.type e f z (td_slice (tyD_ok ht)) hi h4 a xs.length xs.length (xs.map enc) (by rw [h2']; simp) hold ⟨r, 0, none⟩ 1 1 [enc u] (by rw [h2']; rfl) hnews (by omega) (by omega) (by rw [h3]; exact growslice_fits (by omega) hbytes)
      refine ⟨_, _, hr, ?_⟩
      refine key _ ((xs.map enc).toArray ++ [enc u].toArray ++ Builtin.zeroCells z.cells (grownCap w (xs.length + 1) xs.length e - (xs.length + 1))) rfl ?_ ?_
      · have := grownCap_ge w (xs.length + 1) xs.length e; simp [size_zeroCells, hzs]; omega
      · simp only [Array.toList_append, List.map_append, List.map_cons, List.map_nil]
        rw [List.take_append_of_le_length (by simp)]
        rw [List.take_of_length_le (by simp)]
  obtain ⟨v', w', hr', hO⟩ := hrun
  refine Ops.val hd2 hg2 (fun a hr => ?_) (hk v' w' hO)
  simp [execOp, h2, resolve, invoke, builtin, hr.ev hx, hr.ev hy, hr']
end
/-- What stands under a set that grows. -/
theorem Kp.own {own own' : Nat → Prop} {w w' w2 : World} (h : Kp own w w') (k : Kp own' w' w2) (hg : ∀ x, own' x → own x ∨ w'.heap.size ≤ x) : Kp own w w2 :=
  (h.trans k).mono (fun i hi e => by
    rcases e with e | e
    · exact e
    · rcases hg i e with e2 | e2
      · exact e2
      · have := h.size; omega)
end Go.Proofs.Ytehjmakiljhjdaa.VW
namespace Go.Proofs.Ytehjmakiljhjdaa
open Go Go.RowKit Go.Proofs.Ytehjmakiljhjdaa.VW
attribute [local irreducible] W Ops OrdA VW.Ord OrdX Wi OpsI OrdF
abbrev extV (b1 b2 b3 : Nat) : Value := .func (.func 91) #[] #[.pointer (some ⟨b1, 0, none⟩), .pointer (some ⟨b2, 0, none⟩), .pointer (some ⟨b3, 0, none⟩)]
/-- What the visits lean on. -/
structure Pt (b1 b2 b3 lp n cap : Nat) (A : Option Addr) (own : Nat → Prop) (w : World) : Prop where
  h1 : Blk w b1 #[.slice A n cap] 71
  h2 : Blk w b2 #[.func (.yield lp) #[] #[]] 88
  h3 : Blk w b3 #[extV b1 b2 b3] 88
  o1 : ¬ own b1
  o2 : ¬ own b2
  o3 : ¬ own b3
  lt : ∀ x, own x → x < w.heap.size
theorem Pt.kp {b1 b2 b3 lp n cap : Nat} {A : Option Addr} {own own' : Nat → Prop} {w w' : World} (h : Pt b1 b2 b3 lp n cap A own w) (k : Kp own' w w') (hg : ∀ x, own' x → own x ∨ w.heap.size ≤ x) (hl : ∀ x, own' x → x < w'.heap.size) : Pt b1 b2 b3 lp n cap A own' w' := by
  have g1 : ¬ own' b1 := fun e => (hg _ e).elim h.o1 (fun e2 => by have := h.h1.lt; omega)
  have g2 : ¬ own' b2 := fun e => (hg _ e).elim h.o2 (fun e2 => by have := h.h2.lt; omega)
  have g3 : ¬ own' b3 := fun e => (hg _ e).elim h.o3 (fun e2 => by have := h.h3.lt; omega)
  exact ⟨h.h1.kp k g1, h.h2.kp k g2, h.h3.kp k g3, g1, g2, g3, hl⟩
/-- What a visit leaves. -/
def Vd (J : List (List Int) → (Nat → Prop) → World → Prop) (done : List (List Int)) (own : Nat → Prop) (w w' : World) : Prop := ∃ own', J done own' w' ∧ Kp own' w w' ∧ (∀ x, own x → own' x) ∧ (∀ x, own' x → own x ∨ w.heap.size ≤ x) ∧ ∀ x, own' x → x < w'.heap.size
theorem Vd.via {J : List (List Int) → (Nat → Prop) → World → Prop} {d2 : List (List Int)} {own own1 : Nat → Prop} {w w1 w2 : World} (k : Kp own1 w w1) (hs : ∀ x, own x → own1 x) (hg : ∀ x, own1 x → own x ∨ w.heap.size ≤ x) (h : Vd J d2 own1 w1 w2) : Vd J d2 own w w2 := by
  obtain ⟨own2, h1, h2, h3, h4, h5⟩ := h
  refine ⟨own2, h1, (k.trans h2).mono (fun i hi e => by rcases e with e | e; exact h3 i e; exact e), fun x hx => h3 x (hs x hx), fun x hx => ?_, h5⟩
  rcases h4 x hx with e | e
  · exact hg x e
  · have := k.size; omega
theorem visJ_split {f : List Int → List (List Int)} {l : List Int} {j : Nat} : ∀ m, j ≤ m → ∃ t, visJ f l m = visJ f l j ++ t
  | 0, h => by
    obtain rfl : j = 0 := by omega
    exact ⟨[], by simp⟩
  | m + 1, h => by
    by_cases e : j = m + 1
    · subst e; exact ⟨[], by simp⟩
    · obtain ⟨t, ht⟩ := visJ_split (f := f) (l := l) m (show j ≤ m by omega)
      exact ⟨t ++ if (m : Int) ∈ l then [] else f (l ++ [(m : Int)]), by rw [visJ, ht, List.append_assoc]⟩
set_option maxHeartbeats 4000000 in
theorem ext_in {b1 b2 b3 lp n cap : Nat} {A : Option Addr} {J : List (List Int) → (Nat → Prop) → World → Prop} (hn : n ≤ 7)
    (hJk : ∀ done own W W', J done own W → Kp (fun _ => False) W W' → J done own W')
    (hyes : ∀ done own a A m W, J done own W → (∃ rest, done ++ [a] ++ rest = allL n) → Asg a n → SlI W (.slice A a.length m) a → a.length ≤ m → (∀ i, Value.ownBlock (.slice A a.length m) = some i → ¬ own i ∧ lp < i) → (∀ x, own x → x < W.heap.size) → YieldAt (Fw none) 0 Try.prog lp #[.slice A a.length m] W (fun e W' => e = .returned (.bool true) ∧ Vd J (done ++ [a]) own W W')) :
    ∀ (k : Nat) (l : List Int) (done : List (List Int)) (own : Nat → Prop) (w : World) (Al : Option Addr) (m : Nat), l.length + k = n → Beg l n l.length → (∃ rest, done ++ visS n k l ++ rest = allL n) → J done own w → Pt b1 b2 b3 lp n cap A own w → lp < w.heap.size → SlI w (.slice Al l.length m) l → l.length ≤ m → (∀ i, Value.ownBlock (.slice Al l.length m) = some i → ¬ own i ∧ lp < i) →
    CallsIn (Fw none) 0 Try.prog 91 #[.slice Al l.length m, .pointer (some ⟨b1, 0, none⟩), .pointer (some ⟨b2, 0, none⟩), .pointer (some ⟨b3, 0, none⟩)] w (Ret fun r w' => r = .bool true ∧ Vd J (done ++ visS n k l) own w w') := by
  intro k
  induction k with
  | zero =>
    intro l done own w Al m hl hb hpre hj hp hlp hs hm ho
    have hl' : (l.length : Int) = n := by omega
    have hA : Asg l n := asg_beg.2 (by rw [show l.length = n by omega] at hb; exact hb)
    have B1 := hp.h1
    have B2 := hp.h2
    have hbw : Below w.heap.size w w := Below.refl _ _
    refine callsIn_Wi (vs := [_, _, _, _]) Try.func91 rfl rfl ?_
    refine Wi.seq (Wi.regionN rfl rfl ?_)
    (repeat (first | with_reducible refine Ops.nil ?_ | refine z_p (kk := ?_)))
    refine W.endl ?_
    refine Wi.seq (Wi.seq (Wi.regionN rfl rfl ?_))
    (repeat (first | with_reducible refine Ops.nil ?_ | refine z_p (kk := ?_) | refine z_l (kk := ?_) | refine z_d (kk := ?_)))
    refine W.endl ?_
    refine Wi.cond rfl (fun hc => ?_) (fun hc => absurd hl' (by simpa using hc))
    refine Wi.seq (Wi.region ?_)
    refine OpsI.split 2 rfl rfl rfl rfl ?_
    (repeat (first | refine z_p (kk := ?_) | refine z_d (kk := ?_)))
    refine Ops.nil (W.endl ?_)
    obtain ⟨fn, tmps, assign, body, hr, hR⟩ := hyes done own l Al m w hj (by obtain ⟨rest, e⟩ := hpre; exact ⟨rest, by simpa [visS] using e⟩) hA hs hm ho hp.lt
    refine OpsI.yield1 rfl rfl rfl rfl rfl rfl ⟨fn, tmps, assign, body, hr, hR.mono fun e W' he => ⟨he.1, ?_⟩⟩
    refine OpsI.split 1 rfl rfl rfl rfl ?_
    (repeat (first | refine z_p (kk := ?_)))
    refine Ops.nil (W.endl (OpsI.nil ?_))
    refine Wi.ret ?_
    exact ⟨.inr rfl, _, rfl, rfl, he.2⟩
  | succ k ih =>
    intro l done own w Al m hl hb hpre hj hp hlp hs hm ho
    have hl' : ¬ (l.length : Int) = n := by omega
    have B1 := hp.h1
    have hbw : Below w.heap.size w w := Below.refl _ _
    refine callsIn_Wi (vs := [_, _, _, _]) Try.func91 rfl rfl ?_
    refine Wi.seq (Wi.regionN rfl rfl ?_)
    (repeat (first | with_reducible refine Ops.nil ?_ | refine z_p (kk := ?_)))
    refine W.endl ?_
    refine Wi.seq (Wi.seq (Wi.regionN rfl rfl ?_))
    (repeat (first | with_reducible refine Ops.nil ?_ | refine z_p (kk := ?_) | refine z_l (kk := ?_) | refine z_d (kk := ?_)))
    refine W.endl ?_
    refine Wi.cond rfl (fun hc => absurd (by simpa using hc) hl') (fun hc => Wi.skip ?_)
    refine Wi.seq (Wi.seq (Wi.regionN rfl rfl ?_))
    (repeat (first | with_reducible refine Ops.nil ?_ | refine z_p (kk := ?_) | refine z_l (kk := ?_) | refine z_d (kk := ?_)))
    refine W.endl ?_
    refine Wi.sub (ρ' := [(0, .slice Al l.length m), (3, .pointer (some ⟨b3, 0, none⟩)), (16, .int .i64 n), (17, .int .i64 0)]) (by repeat (first | exact trivial | refine And.intro rfl ?_)) ?_
    clear B1 hbw hc
    refine Wi.block (Wi.loop (m := n) (fun mm ρ w1 => ∃ (j : Nat), mm = n - j ∧ j ≤ n ∧ ρ = [(0, .slice Al l.length m), (3, .pointer (some ⟨b3, 0, none⟩)), (16, .int .i64 n), (17, .int .i64 j)] ∧ Vd J (done ++ visJ (visS n k) l j) own w w1) ⟨0, rfl, Nat.zero_le _, rfl, ⟨own, by simpa [visJ] using hj, Kp.of_below (Below.refl _ _), fun x h => h, fun x h => .inl h, hp.lt⟩⟩ ?_)
    rintro mm ρ w1 ⟨j, rfl, hj2, rfl, hV⟩
    refine Wi.seq (Wi.regionN rfl rfl ?_)
    (repeat (first | with_reducible refine Ops.nil ?_ | refine z_p (kk := ?_)))
    refine W.endl ?_
    refine Wi.seq (Wi.cond rfl (fun hc => ?_) (fun hc => ?_))
    · have hjl : j < n := by simpa using hc
      refine Wi.skip ?_
      obtain ⟨own1, hJ1, hk1, hs1, hg1, hlt1⟩ := hV
      have hp1 := hp.kp hk1 hg1 hlt1
      have hno1 : ∀ i, Value.ownBlock (.slice Al l.length m) = some i → 0 < l.length → ¬ own1 i := fun i hi hpos e => by
        rcases hg1 i e with e2 | e2
        · exact (ho i hi).1 e2
        · have := Sl.lt hs hpos hi; omega
      have hsl1 : SlI w1 (.slice Al l.length m) l := sl_kp' hs hk1 (fun hpos i hi e => hno1 i hi hpos e)
      refine Wi.seq (Wi.block (Wi.seq (Wi.regionN rfl rfl ?_)))
      (repeat (first | with_reducible refine Ops.nil ?_ | refine z_p (kk := ?_)))
      refine W.endl ?_
      have hd1 : ∀ (jj : Nat), done ++ visJ (visS n k) l (jj + 1) = done ++ visJ (visS n k) l jj ++ (if (jj : Int) ∈ l then [] else visS n k (l ++ [(jj : Int)])) := fun jj => by rw [visJ, List.append_assoc]
      refine Wi.seq (Wi.ordF (fun w' => Blk w' b3 #[extV b1 b2 b3] 88) [0, 1, 2, 3, 4, 5, 6, 7, 8, 9, 10, 11, 12, 13, 14, 15, 16, 17] rfl (by kernel_rfl) (by kernel_rfl) (by kernel_rfl) rfl (fun wr kr _ => ⟨hp1.h3.kp kr (fun e => e), ?_⟩))
      have B3r := hp1.h3.kp kr (fun e => e)
      have hslr := hsl1.kp kr (fun _ _ e => e)
      have hJr := hJk _ _ _ _ hJ1 kr
      have hpr : Pt b1 b2 b3 lp n cap A own1 wr := ⟨hp1.h1.kp kr (fun e => e), hp1.h2.kp kr (fun e => e), B3r, hp1.o1, hp1.o2, hp1.o3, fun x hx => by have := hp1.lt x hx; have := kr.size; omega⟩
      have hkr : Kp own1 w wr := (hk1.trans kr).mono (fun i _ e => by rcases e with e | e; exact e; exact e.elim)
      have hszr := kr.size
      have hsz1 := hk1.size
      have hlpr : lp < wr.heap.size := by omega
      (repeat (first | refine f_p (kk := ?_)))
      refine OrdF.one 2 (by kernel_rfl) rfl (Ops.callS rfl rfl rfl rfl rfl (contains_c hslr) (Ops.nil (W.endl ⟨B3r, ?_⟩)))
      by_cases hmm : (j : Int) ∈ l
      · rw [decide_eq_true hmm]
        (repeat (first | refine f_p (kk := ?_) | refine f_n (kk := ?_)))
        refine OrdF.done (by kernel_rfl) (W.endl ?_)
        refine Wi.cond rfl (fun hc => by cases hc) (fun hc => Wi.skip ?_)
        refine Wi.regionN rfl rfl ?_
        (repeat (first | with_reducible refine Ops.nil ?_ | refine z_p (kk := ?_) | refine z_a (kk := ?_)))
        refine W.endl ⟨_, _, ⟨⟨j + 1, rfl, by omega, rfl, ?_⟩, by omega⟩, (by repeat (first | exact trivial | refine And.intro rfl ?_))⟩
        rw [hd1, if_pos hmm, List.append_nil]
        exact ⟨own1, hJr, hkr, hs1, hg1, hpr.lt⟩
      · rw [decide_eq_false hmm]
        refine f_p (i := 3) (kk := ?_)
        refine f_p (i := 4) (kk := ?_)
        refine OrdF.take (by kernel_rfl) rfl rfl rfl rfl (fun w hF => EV.ld rfl rfl rfl (Blk.cell hF rfl)) ?_
        refine f_p (i := 6) (kk := ?_)
        refine f_p (i := 7) (kk := ?_)
        refine f_l (i := 8) (kk := ?_)
        refine f_p (i := 9) (kk := ?_)
        refine f_l (i := 10) (kk := ?_)
        refine OrdF.take (by kernel_rfl) rfl rfl rfl rfl (fun w _ => EV.sl3 rfl rfl rfl rfl rfl rfl hm) ?_
        refine f_p (i := 12) (kk := ?_)
        refine OrdF.one 13 (by kernel_rfl) rfl (Ops.yesB rfl rfl rfl rfl rfl (Ops.bs1 rfl rfl rfl rfl rfl rfl rfl rfl rfl (fun ws rb hMs => Ops.nil (W.endl ⟨B3r.kp hMs.kp (fun e => e), ?_⟩))))
        have hsls := hslr.kp hMs.kp (fun _ _ e => e)
        have hsl0 : SlI ws (.slice Al l.length l.length) l := by
          obtain ⟨q1, A', c', q2, q3⟩ := hsls
          cases q2
          exact ⟨q1, _, _, rfl, q3⟩
        have hnil : Al = none → l.length = 0 := fun e => by
          obtain ⟨q1, A', c', q2, q3⟩ := hsls
          cases q2
          rcases Nat.eq_zero_or_pos l.length with h | h
          · exact h
          · obtain ⟨a, ha, _⟩ := q3 h
            rw [e] at ha; cases ha
        refine OrdF.one 14 (by kernel_rfl) rfl (Ops.yesB rfl rfl rfl rfl rfl (Ops.appG (enc := Value.int .i64) (z0 := 0) (u := (j : Int)) rfl rfl rfl rfl rfl rfl rfl rfl rfl rfl hnil hsl0 (own_one hMs) (by omega) (fun lv wt hOt => Ops.nil (W.endl ⟨(B3r.kp hMs.kp (fun e => e)).kp (Kp.of_below (S := fun _ => False) hOt.bel) (fun e => e), ?_⟩))))
        have hkst : Kp (fun _ => False) wr wt := (hMs.kp.trans (Kp.of_below (S := fun _ => False) hOt.bel)).mono (fun _ _ e => by rcases e with e | e <;> exact e)
        have hsst := hkst.size
        have hszs := hMs.kp.size
        have hJt := hJk _ _ _ _ hJr hkst
        have hpt : Pt b1 b2 b3 lp n cap A own1 wt := ⟨hpr.h1.kp hkst (fun e => e), hpr.h2.kp hkst (fun e => e), hpr.h3.kp hkst (fun e => e), hpr.o1, hpr.o2, hpr.o3, fun x hx => by have := hpr.lt x hx; omega⟩
        have hkt : Kp own1 w wt := (hkr.trans hkst).mono (fun i _ e => by rcases e with e | e; exact e; exact e.elim)
        have hlen : (l ++ [(j : Int)]).length = l.length + 1 := by simp
        have hcap := hOt.own
        have hge := hOt.ge
        have hsl2 := hOt.sl (z := (0 : Int))
        obtain ⟨At, mt, rfl⟩ := hOt.sh
        have hpre2 : ∃ rest, done ++ visJ (visS n k) l j ++ visS n k (l ++ [(j : Int)]) ++ rest = allL n := by
          obtain ⟨rest, e⟩ := hpre
          obtain ⟨t, ht⟩ := visJ_split (f := visS n k) (l := l) (j := j + 1) n (by omega)
          have e2 : visS n (k + 1) l = visJ (visS n k) l n := rfl
          rw [e2, ht, visJ, if_neg hmm] at e
          exact ⟨t ++ rest, by rw [← e]; simp [List.append_assoc]⟩
        have hrec := callsIn_wide.1 (ih (l ++ [(j : Int)]) _ own1 wt At mt (by rw [hlen]; omega) (by rw [hlen]; exact beg_snoc hb hjl hmm) hpre2 hJt hpt (by omega) hsl2 (own_cap hcap) (fun i hi => ⟨fun e => by have := hpr.lt i e; have := hge i hi; omega, by have := hge i hi; omega⟩))
        refine OrdF.one 15 (by kernel_rfl) rfl (Ops.yesB rfl rfl rfl rfl rfl (Ops.call rfl rfl rfl rfl rfl hrec (fun rr wy hR => Ops.nil (W.endl ⟨?_, ?_⟩))))
        · obtain ⟨-, own2, q1, q2, q3, q4, q5⟩ := hR
          exact (hpt.kp q2 q4 q5).h3
        obtain ⟨rfl, hVd⟩ := hR
        refine f_p (i := 16) (kk := ?_)
        refine f_p (i := 17) (kk := ?_)
        refine OrdF.done (by kernel_rfl) (W.endl ?_)
        refine Wi.cond rfl (fun hc => by cases hc) (fun hc => Wi.skip ?_)
        refine Wi.regionN rfl rfl ?_
        (repeat (first | with_reducible refine Ops.nil ?_ | refine z_p (kk := ?_) | refine z_a (kk := ?_)))
        refine W.endl ⟨_, _, ⟨⟨j + 1, rfl, by omega, rfl, ?_⟩, by omega⟩, (by repeat (first | exact trivial | refine And.intro rfl ?_))⟩
        rw [hd1, if_neg hmm]
        exact Vd.via hkt hs1 hg1 hVd
    · have : j = n := by simp at hc; omega
      subst this
      refine Wi.exit ?_
      show ite _ _ _
      rw [if_pos rfl]
      refine Wi.seq (Wi.regionN rfl rfl ?_)
      (repeat (first | with_reducible refine Ops.nil ?_ | refine z_p (kk := ?_)))
      refine W.endl ?_
      refine Wi.ret ?_
      exact ⟨.inr rfl, _, rfl, rfl, hV⟩
end Go.Proofs.Ytehjmakiljhjdaa
namespace Go.Proofs.Ytehjmakiljhjdaa
open Go Go.RowKit Go.Proofs.Ytehjmakiljhjdaa.VW
attribute [local irreducible] W Ops OrdA VW.Ord OrdX Wi OpsI OrdF
theorem all_c {w : World} {cv : Value} : Calls Try.prog 71 #[cv] w (Ret fun r w' => ∃ b, r = .func (.func 90) #[] #[.pointer (some ⟨b, 0, none⟩)] ∧ w'.heap[b]? = some (.cells cv.cells 71 (0, 0)) ∧ w.heap.size ≤ b ∧ Below w.heap.size w w') := by
  refine calls_W (vs := [_]) Try.func71 rfl (by kernel_rfl) rfl ?_
  (repeat (first | with_reducible refine W.seq ?_ | with_reducible refine W.region ?_))
  refine Ops.box rfl rfl rfl rfl (fun w1 b hb => ?_)
  (repeat (first | with_reducible refine W.seq ?_ | with_reducible refine Ops.nil ?_ | with_reducible refine W.region ?_ | refine z_p (kk := ?_)))
  exact W.fret rfl ⟨b, rfl, hb.at_, by rw [hb.r_eq]; exact Nat.le_refl _, Below.put (Below.refl _ _) hb.kp (fun _ e => e.elim)⟩
set_option maxHeartbeats 2000000 in
theorem all1_in {b1 lp n cap : Nat} {A : Option Addr} {J : List (List Int) → (Nat → Prop) → World → Prop} (hn : n ≤ 7)
    (hJk : ∀ done own W W', J done own W → Kp (fun _ => False) W W' → J done own W')
    (hyes : ∀ done own a A m W, J done own W → (∃ rest, done ++ [a] ++ rest = allL n) → Asg a n → SlI W (.slice A a.length m) a → a.length ≤ m → (∀ i, Value.ownBlock (.slice A a.length m) = some i → ¬ own i ∧ lp < i) → (∀ x, own x → x < W.heap.size) → YieldAt (Fw none) 0 Try.prog lp #[.slice A a.length m] W (fun e W' => e = .returned (.bool true) ∧ Vd J (done ++ [a]) own W W'))
    {w : World} {own : Nat → Prop} (hB : Blk w b1 #[.slice A n cap] 71) (hob : ¬ own b1) (hol : ∀ x, own x → x < w.heap.size) (hlp : lp < w.heap.size) (h0 : J [] own w) :
    CallsIn (Fw none) 0 Try.prog 90 #[.func (.yield lp) #[] #[], .pointer (some ⟨b1, 0, none⟩)] w (Ret fun v w' => Vd J (allL n) own w w') := by
  refine callsIn_Wi (vs := [_, _]) Try.func90 rfl rfl ?_
  refine Wi.seq (Wi.regionN rfl rfl ?_)
  skip
  refine Ops.box rfl rfl rfl rfl (fun w1 b2 hM2 => ?_)
  refine Ops.nil (W.endl ?_)
  refine Wi.seq (Wi.regionN rfl rfl ?_)
  refine Ops.alloc rfl rfl rfl rfl (fun w2 b3 hM3 => ?_)
  refine Ops.nil (W.endl ?_)
  refine Wi.seq (Wi.regionN rfl rfl ?_)
  (repeat (first | refine z_p (kk := ?_)))
  refine Ops.st rfl rfl rfl rfl rfl rfl rfl hM3.at_ (by exact Nat.zero_lt_one) (fun w3 hu3 => ?_)
  refine Ops.nil (W.endl ?_)
  have e2 := hM2.r_eq
  have e3 := hM3.r_eq
  have s2 := hM2.size
  have s3 := hM3.size
  have su := hu3.size
  have hb1lt := hB.lt
  have B3 : Blk w3 b3 #[extV b1 b2 b3] 88 := hu3.blk
  have B2 : Blk w3 b2 #[.func (.yield lp) #[] #[]] 88 := (Blk.kp hM2.at_ hM3.kp (fun e => e)).kp hu3.kp (fun e => by omega)
  have B1 : Blk w3 b1 #[.slice A n cap] 71 := ((hB.kp hM2.kp (fun e => e)).kp hM3.kp (fun e => e)).kp hu3.kp (fun e => by omega)
  have hbel : Below w.heap.size w w3 := Below.put (Below.put (Below.put (Below.refl _ _) hM2.kp (fun _ e => e.elim)) hM3.kp (fun _ e => e.elim)) hu3.kp (fun i e => by omega)
  have hb33 : Below w3.heap.size w3 w3 := Below.refl _ _
  have hk : Kp (fun _ => False) w w3 := Kp.of_below hbel
  have hp : Pt b1 b2 b3 lp n cap A own w3 := ⟨B1, B2, B3, hob, fun e => by have := hol _ e; omega, fun e => by have := hol _ e; omega, fun x hx => by have := hol x hx; omega⟩
  have hbeg : Beg [] n ([] : List Int).length := ⟨rfl, fun x hx => by simp at hx, by simp⟩
  have hrec := callsIn_wide.1 (ext_in hn hJk hyes n [] [] own w3 none 0 (by simp) hbeg ⟨[], by rw [vis_all]; simp⟩ (hJk _ _ _ _ h0 hk) hp (by omega) (Sl.nil _ _ _ _ _) (Nat.le_refl _) (fun i hi => by simp [Value.ownBlock] at hi))
  refine Wi.regionN rfl rfl ?_
  (repeat (first | refine z_d (kk := ?_)))
  refine Ops.call rfl rfl rfl rfl rfl hrec (fun rr wy hR => ?_)
  refine Ops.nil (W.endl ?_)
  obtain ⟨-, hVd⟩ := hR
  rw [List.nil_append, vis_all] at hVd
  refine ⟨.inl rfl, _, rfl, ?_⟩
  obtain ⟨own', q1, q2, q3, q4, q5⟩ := hVd
  exact ⟨own', q1, (hk.trans q2).mono (fun i _ e => by rcases e with e | e; exact e.elim; exact e), q3, fun x hx => (q4 x hx).imp id (fun e => by omega), q5⟩
/-- for l := range c.all(): 'I done own' before a visit; own: what a round may write. -/
theorem JW.alls {wE : World} {b1 n cap id p nT : Nat} {gx : Operand} {A : Option Addr} {assign body c2 : Code} {Φ : Post} {ds : List Deferred} {ρ : E} {I : List (List Int) → (Nat → Prop) → World → Prop} {own0 : Nat → Prop} (hn : n ≤ 7)
    (hg : ev ρ gx = some (.func (.func 90) #[] #[.pointer (some ⟨b1, 0, none⟩)])) (hi2 : inB nT c2 = true) (hp : Nat.blt p nT = true)
    (hB : Blk wE b1 #[.slice A n cap] 71) (hob : ¬ own0 b1) (hol : ∀ x, own0 x → x < wE.heap.size)
    (hIk : ∀ done own W W', I done own W → Kp (fun k => k = wE.heap.size ∨ k = wE.heap.size + 1) W W' → I done own W') (h0 : I [] own0 wE)
    (hround : ∀ L done own a A m W, L = wE.heap.size + 1 → I done own W → (∃ rest, done ++ [a] ++ rest = allL n) → Asg a n → SlI W (.slice A a.length m) a → a.length ≤ m → (∀ i, Value.ownBlock (.slice A a.length m) = some i → ¬ own i ∧ wE.heap.size + 1 < i) → wE.heap.size + 2 ≤ W.heap.size →
      Wi (some L) Try.prog nT [] assign (fun e ρ1 w1 => e = .normal ∧ w1 = W ∧ ∀ W', I done own W' → SlI W' (.slice A a.length m) a → W'.heap.size = W.heap.size → Wi (some L) Try.prog nT [] body (fun e ρ2 w2 => e = .normal ∧ ∃ own', I (done ++ [a]) own' w2 ∧ Kp own' W' w2 ∧ (∀ x, own x → own' x) ∧ (∀ x, own' x → own x ∨ W'.heap.size ≤ x) ∧ ∀ x, own' x → x < w2.heap.size) ρ1 W') ((p, .slice A a.length m) :: ρ) W)
    (hdone : ∀ D W3 own, D = wE.heap.size → I (allL n) own W3 → W3.heap[D]? = some (.deferred (some [])) → W Try.prog nT ({ target := .collected D, args := #[] } :: ds) [.code c2] (fun e ρ w => e = .ret ∧ w.heap[D]? = some (.deferred (some [])) ∧ Φ .ret ρ (w.putObj D (.deferred none))) ρ W3) :
    JW Try.prog nT ds Φ c2 (.block id (.rangeFunc gx #[p] assign body)) ρ wE := by
  refine JW.range (lb := [.pointer (some ⟨b1, 0, none⟩)]) (gf := 90) hg (Fns.call (P := Try.prog) (by exact rfl)) hi2 (fun fn tmps hrep D W1 hD hW1 => ?_)
  subst hD hW1
  have ka := (mk_alloc wE (.deferred (some []))).kp
  have kb := (mk_alloc (wE.alloc (.deferred (some []))) (.loop (loopRec fn tmps #[p] assign body wE.heap.size))).kp
  have h1 := hIk _ _ _ _ h0 ((ka.trans kb).mono fun k _ e => by rcases e with e | e <;> exact e.elim)
  have hsz : (wE.alloc (.deferred (some []))).heap.size = wE.heap.size + 1 := (mk_alloc wE _).size
  have hsz2 : ((wE.alloc (.deferred (some []))).alloc (.loop (loopRec fn tmps #[p] assign body wE.heap.size))).heap.size = wE.heap.size + 2 := by rw [(mk_alloc (wE.alloc (.deferred (some []))) _).size, hsz]
  have hD1 : ((wE.alloc (.deferred (some []))).alloc (.loop (loopRec fn tmps #[p] assign body wE.heap.size))).heap[wE.heap.size]? = some (.deferred (some [])) := at_kp (mk_alloc wE (.deferred (some []))).at_ kb (fun e => e)
  have hL1 : ((wE.alloc (.deferred (some []))).alloc (.loop (loopRec fn tmps #[p] assign body wE.heap.size))).heap[wE.heap.size + 1]? = some (.loop (loopRec fn tmps #[p] assign body wE.heap.size)) := by
    have := (mk_alloc (wE.alloc (.deferred (some []))) (.loop (loopRec fn tmps #[p] assign body wE.heap.size))).at_
    rw [hsz] at this
    exact this
  have hB1 : Blk ((wE.alloc (.deferred (some []))).alloc (.loop (loopRec fn tmps #[p] assign body wE.heap.size))) b1 #[.slice A n cap] 71 := (hB.kp ka (fun e => e)).kp kb (fun e => e)
  refine CallsIn.mono (all1_in (lp := wE.heap.size + 1) (own := fun x => own0 x ∨ x = wE.heap.size + 1) hn (J := fun done own W => ∃ own1, (∀ x, own x ↔ own1 x ∨ x = wE.heap.size + 1) ∧ (∀ x, own1 x → x ≠ wE.heap.size ∧ x ≠ wE.heap.size + 1) ∧ I done own1 W ∧ W.heap[wE.heap.size]? = some (.deferred (some [])) ∧ W.heap[wE.heap.size + 1]? = some (.loop (loopRec fn tmps #[p] assign body wE.heap.size)))
    (fun done own W W' h k => ?_) (fun done own a Aa m W h hpre hA hs hm ho hlt => ?_) hB1 (fun e => by have := hB.lt; rcases e with e | e; exact hob e; omega) (fun x hx => by rw [hsz2]; rcases hx with e | e; have := hol x e; omega; omega) (by rw [hsz2]; omega) ⟨own0, fun x => Iff.rfl, fun x hx => by have := hol x hx; omega, h1, hD1, hL1⟩) ?_
  · obtain ⟨own1, q1, q2, q3, q4, q5⟩ := h
    exact ⟨own1, q1, q2, hIk _ _ _ _ q3 (k.mono fun _ _ e => e.elim), at_kp q4 k (fun e => e), at_kp q5 k (fun e => e)⟩
  · obtain ⟨own1, q1, q2, q3, q4, q5⟩ := h
    have hLlt := (Array.getElem?_eq_some_iff.1 q5).1
    refine round_in q5 hrep hp ((hround _ done own1 a Aa m W rfl q3 hpre hA hs hm (fun i hi => ⟨fun e => (ho i hi).1 ((q1 i).2 (.inl e)), (ho i hi).2⟩) (by omega)).mono ?_)
    rintro e ρ1 w1 ⟨rfl, rfl, hb⟩
    refine ⟨rfl, _, q5, rfl, ?_⟩
    have hk := kp_putObj (w := w1) (r := wE.heap.size + 1) (.loop { (loopRec fn tmps #[p] assign body wE.heap.size) with state := .busy })
    have hks : (w1.putObj (wE.heap.size + 1) (.loop { (loopRec fn tmps #[p] assign body wE.heap.size) with state := .busy })).heap.size = w1.heap.size := by simp [World.putObj]
    have hsk : SlI (w1.putObj (wE.heap.size + 1) (.loop { (loopRec fn tmps #[p] assign body wE.heap.size) with state := .busy })) (.slice Aa a.length m) a := Sl.kp hs hk (fun i hi e => by have := (ho i hi).2; omega)
    refine (hb _ (hIk _ _ _ _ q3 (hk.mono fun k _ e => .inr e)) hsk hks).mono ?_
    rintro e ρ2 w2 ⟨rfl, own2, r1, r2, r3, r4, r5⟩
    have hne : ∀ x, own2 x → x ≠ wE.heap.size ∧ x ≠ wE.heap.size + 1 := fun x hx => by
      rcases r4 x hx with e | e
      · exact q2 x e
      · rw [hks] at e; omega
    have hl2 : w2.heap[wE.heap.size + 1]? = some (.loop { (loopRec fn tmps #[p] assign body wE.heap.size) with state := .busy }) := at_kp (World.putObj_heap_same hLlt) r2 (fun e => (hne _ e).2 rfl)
    have hd2 : w2.heap[wE.heap.size]? = some (.deferred (some [])) := at_kp (at_kp q4 hk (fun e => by omega)) r2 (fun e => (hne _ e).1 rfl)
    have hlt2 := (Array.getElem?_eq_some_iff.1 hl2).1
    have hk3 := kp_putObj (w := w2) (r := wE.heap.size + 1) (.loop (loopRec fn tmps #[p] assign body wE.heap.size))
    refine ⟨rfl, _, hl2, rfl, fun x => own2 x ∨ x = wE.heap.size + 1, ⟨own2, fun x => Iff.rfl, hne, hIk _ _ _ _ r1 (hk3.mono fun k _ e => .inr e), at_kp hd2 hk3 (fun e => by omega), World.putObj_heap_same hlt2⟩, ?_, fun x hx => ?_, fun x hx => ?_, fun x hx => ?_⟩
    · exact ((hk.trans r2).trans hk3).mono (fun i _ e => by rcases e with (e | e) | e; exact .inr e; exact .inl e; exact .inr e)
    · rcases (q1 x).1 hx with e | e
      · exact .inl (r3 x e)
      · exact .inr e
    · rcases hx with e | e
      · rcases r4 x e with e2 | e2
        · exact .inl ((q1 x).2 (.inl e2))
        · rw [hks] at e2; exact .inr e2
      · exact .inl ((q1 x).2 (.inr e))
    · have hk3s : (w2.putObj (wE.heap.size + 1) (.loop (loopRec fn tmps #[p] assign body wE.heap.size))).heap.size = w2.heap.size := by simp [World.putObj]
      show x < (w2.putObj _ _).heap.size
      rw [hk3s]
      rcases hx with e | e
      · exact r5 x e
      · omega
  · rintro e W2 ⟨v, rfl, own', ⟨own1, q1, q2, q3, q4, q5⟩, k1, k2, k3, k4⟩
    refine ⟨v, rfl, _, q5, rfl, rfl, q4, ?_⟩
    rintro W3 rfl
    have hk3 := kp_putObj (w := W2) (r := wE.heap.size + 1) (.loop { (loopRec fn tmps #[p] assign body wE.heap.size) with state := .exhausted })
    exact hdone _ _ own1 rfl (hIk _ _ _ _ q3 (hk3.mono fun k _ e => .inr e)) (at_kp q4 hk3 (fun e => by omega))
end Go.Proofs.Ytehjmakiljhjdaa
/- Plain: counts, and the place of an assignment in the order. -/
namespace Go.Proofs.Ytehjmakiljhjdaa
open Go Go.RowKit Go.Proofs.Ytehjmakiljhjdaa.VW
def ct (p : Nat → Bool) : Nat → Nat
  | 0 => 0
  | m + 1 => ct p m + if p m then 1 else 0
theorem ct_le (p : Nat → Bool) : ∀ m, ct p m ≤ m
  | 0 => Nat.le_refl _
  | m + 1 => by have := ct_le p m; simp only [ct]; split <;> omega
theorem ct_congr {p q : Nat → Bool} : ∀ m, (∀ i, i < m → p i = q i) → ct p m = ct q m
  | 0, _ => rfl
  | m + 1, h => by simp only [ct]; rw [ct_congr m (fun i hi => h i (by omega)), h m (by omega)]
theorem ct_all {p : Nat → Bool} : ∀ m, (∀ i, i < m → p i = true) → ct p m = m
  | 0, _ => rfl
  | m + 1, h => by simp only [ct]; rw [ct_all m (fun i hi => h i (by omega)), h m (by omega)]; rfl
theorem ct_none {p : Nat → Bool} : ∀ m, (∀ i, i < m → p i = false) → ct p m = 0
  | 0, _ => rfl
  | m + 1, h => by simp only [ct]; rw [ct_none m (fun i hi => h i (by omega)), h m (by omega)]; rfl
theorem ct_zero {p : Nat → Bool} : ∀ m, ct p m = 0 → ∀ i, i < m → p i = false
  | 0, _, i, hi => by omega
  | m + 1, h, i, hi => by
    simp only [ct] at h
    by_cases e : i = m
    · subst e
      cases hp : p i with
      | false => rfl
      | true => rw [hp] at h; simp at h
    · exact ct_zero m (by omega) i (by omega)
theorem ct_lt {p : Nat → Bool} : ∀ m, ct p m < m → ∃ i, i < m ∧ p i = false
  | 0, h => by omega
  | m + 1, h => by
    simp only [ct] at h
    cases hp : p m with
    | false => exact ⟨m, by omega, hp⟩
    | true =>
      rw [hp, if_pos rfl] at h
      obtain ⟨i, h1, h2⟩ := ct_lt (p := p) m (by omega)
      exact ⟨i, by omega, h2⟩
theorem ct_mono {p : Nat → Bool} {a : Nat} : ∀ m, a ≤ m → ct p a ≤ ct p m
  | 0, h => by
    obtain rfl : a = 0 := by omega
    exact Nat.le_refl _
  | m + 1, h => by
    by_cases e : a = m + 1
    · subst e; exact Nat.le_refl _
    · have := ct_mono (p := p) m (show a ≤ m by omega); simp only [ct]; omega
theorem ct_sub {p q : Nat → Bool} : ∀ m, (∀ i, i < m → p i = true → q i = true) → ct p m ≤ ct q m
  | 0, _ => Nat.le_refl _
  | m + 1, h => by
    have := ct_sub m (fun i hi => h i (by omega))
    simp only [ct]
    cases hp : p m with
    | false => simp; omega
    | true => rw [h m (by omega) hp]; simp; omega
theorem ct_ssub {p q : Nat → Bool} {j : Nat} : ∀ m, (∀ i, i < m → p i = true → q i = true) → j < m → p j = false → q j = true → ct p m < ct q m
  | 0, _, h, _, _ => by omega
  | m + 1, h, hj, h1, h2 => by
    simp only [ct]
    by_cases e : j = m
    · subst e
      have := ct_sub (p := p) (q := q) j (fun i hi => h i (by omega))
      rw [h1, h2]; simp; omega
    · have := ct_ssub m (fun i hi => h i (by omega)) (by omega) h1 h2
      cases hp : p m with
      | false => simp; omega
      | true => rw [h m (by omega) hp]; simp; omega
theorem ct_or {p q : Nat → Bool} : ∀ m, (∀ i, i < m → p i = true → q i = false) → ct (fun i => p i || q i) m = ct p m + ct q m
  | 0, _ => rfl
  | m + 1, h => by
    have ih := ct_or m (fun i hi => h i (by omega))
    have hm := h m (by omega)
    have key : ∀ x y : Bool, (x = true → y = false) → (if (x || y) = true then 1 else 0 : Nat) = (if x = true then 1 else 0) + (if y = true then 1 else 0) := by decide
    have := key _ _ hm
    simp only [ct]
    rw [ih, this]
    omega
theorem ct_upto {p : Nat → Bool} {a : Nat} : ∀ m, a ≤ m → ct (fun i => p i && decide (i < a)) m = ct p a
  | 0, h => by
    obtain rfl : a = 0 := by omega
    rfl
  | m + 1, h => by
    simp only [ct]
    by_cases e : a = m + 1
    · subst e
      simp only [ct]
      rw [ct_congr (q := p) m (fun i hi => by simp [show i < m + 1 by omega])]
      simp
    · rw [ct_upto m (by omega)]
      simp [show ¬ m < a by omega]
/-- The total of the q-th of all assignments. -/
def tt (c : List (List Int)) (q : Nat) : Int := totP c ((allL c.length).getD q []) c.length
/-- How many come before the p-th. -/
def rank (c : List (List Int)) (p : Nat) : Nat := ct (fun q => decide (tt c q < tt c p)) (allL c.length).length + ct (fun q => decide (tt c q = tt c p)) p
/-- Does the q-th come before the p-th? -/
def bef (c : List (List Int)) (q p : Nat) : Bool := decide (tt c q < tt c p) || (decide (tt c q = tt c p) && decide (q < p))
theorem rank_bef {c : List (List Int)} {p : Nat} (hp : p < (allL c.length).length) : rank c p = ct (fun q => bef c q p) (allL c.length).length := by
  unfold rank bef
  rw [ct_or (p := fun q => decide (tt c q < tt c p)) (q := fun q => decide (tt c q = tt c p) && decide (q < p)) _ (fun i hi h => by simp at h ⊢; intro h2; omega), ct_upto (p := fun q => decide (tt c q = tt c p)) _ (by omega)]
theorem bef_trans {c : List (List Int)} {a b d : Nat} (h1 : bef c a b = true) (h2 : bef c b d = true) : bef c a d = true := by
  unfold bef at *
  simp only [Bool.or_eq_true, Bool.and_eq_true, decide_eq_true_eq] at *
  omega
theorem bef_irr {c : List (List Int)} {a : Nat} : bef c a a = false := by simp [bef]
theorem bef_total {c : List (List Int)} {a b : Nat} (h : a ≠ b) : bef c a b = true ∨ bef c b a = true := by
  unfold bef
  simp only [Bool.or_eq_true, Bool.and_eq_true, decide_eq_true_eq]
  omega
theorem rank_lt {c : List (List Int)} {a b : Nat} (ha : a < (allL c.length).length) (hb : b < (allL c.length).length) (h : bef c a b = true) : rank c a < rank c b := by
  rw [rank_bef ha, rank_bef hb]
  exact ct_ssub _ (fun i _ hi => bef_trans hi h) ha bef_irr h
theorem rank_inj {c : List (List Int)} {a b : Nat} (ha : a < (allL c.length).length) (hb : b < (allL c.length).length) (h : rank c a = rank c b) : a = b := Classical.byContradiction fun hne => by
  rcases bef_total (c := c) hne with e | e
  · have := rank_lt ha hb e; omega
  · have := rank_lt hb ha e; omega
theorem rank_le {c : List (List Int)} {a : Nat} (ha : a < (allL c.length).length) : rank c a < (allL c.length).length := by
  rw [rank_bef ha]
  have := ct_ssub (p := fun q => bef c q a) (q := fun _ => true) (j := a) (allL c.length).length (fun _ _ _ => rfl) ha bef_irr rfl
  rwa [ct_all _ (fun _ _ => rfl)] at this
theorem idx_ex {c : List (List Int)} {a : List Int} (h : Asg a c.length) : ∃ p, p < (allL c.length).length ∧ (allL c.length).getD p [] = a := mem_getDR (mem_allL.2 h)
theorem all_inj {n p q : Nat} (hp : p < (allL n).length) (hq : q < (allL n).length) (h : (allL n).getD p [] = (allL n).getD q []) : p = q := Classical.byContradiction fun hne => by
  rcases Nat.lt_or_ge p q with l | l
  · have := allL_lt l hq; rw [h, lexB_irr] at this; cases this
  · have := allL_lt (show q < p by omega) hp; rw [h, lexB_irr] at this; cases this
theorem lex_lt {n p q : Nat} (hp : p < (allL n).length) (hq : q < (allL n).length) : lexB ((allL n).getD p []) ((allL n).getD q []) = decide (p < q) := by
  rcases Nat.lt_trichotomy p q with l | l | l
  · rw [allL_lt l hq, decide_eq_true l]
  · subst l; rw [lexB_irr, decide_eq_false (by omega)]
  · rw [decide_eq_false (by omega)]
    cases h : lexB ((allL n).getD p []) ((allL n).getD q []) with
    | false => rfl
    | true => have := lexB_trans _ _ _ h (allL_lt l hp); rw [lexB_irr] at this; cases this
/-- The first one in the order. -/
theorem item0 {c : List (List Int)} {p : Nat} (hp : p < (allL c.length).length) (h : rank c p = 0) : (allL c.length).getD p [] = firstS c c.length 0 := by
  have hA : Asg ((allL c.length).getD p []) c.length := mem_allL.1 (getD_memR hp)
  obtain ⟨f, hf, hfe⟩ := idx_ex (c := c) firstS_Asg
  rw [rank_bef hp] at h
  have hno := ct_zero _ h f hf
  have htf : tt c f = minT c := by unfold tt; rw [hfe]; exact first_tot
  have htp : minT c ≤ tt c p := min_le hA
  unfold bef at hno
  simp only [Bool.or_eq_false_iff, Bool.and_eq_false_iff, decide_eq_false_iff_not] at hno
  have hteq : tt c p = minT c := by omega
  rcases first_lex hA hteq with e | e
  · exact e
  · rw [← hfe, lex_lt hf hp] at e
    simp at e
    omega
theorem rank_first {c : List (List Int)} : ∃ f, f < (allL c.length).length ∧ (allL c.length).getD f [] = firstS c c.length 0 ∧ rank c f = 0 := by
  obtain ⟨f, hf, hfe⟩ := idx_ex (c := c) firstS_Asg
  refine ⟨f, hf, hfe, ?_⟩
  rw [rank_bef hf]
  refine ct_none _ (fun q hq => ?_)
  have hA : Asg ((allL c.length).getD q []) c.length := mem_allL.1 (getD_memR hq)
  have htf : tt c f = minT c := by unfold tt; rw [hfe]; exact first_tot
  have htq : minT c ≤ tt c q := min_le hA
  unfold bef
  simp only [Bool.or_eq_false_iff, Bool.and_eq_false_iff, decide_eq_false_iff_not]
  refine ⟨by omega, ?_⟩
  by_cases e : tt c q = minT c
  · right
    rcases first_lex hA e with e2 | e2
    · have := all_inj hq hf (by rw [e2, hfe]); omega
    · rw [← hfe, lex_lt hf hq] at e2; simp at e2; omega
  · left; omega
end Go.Proofs.Ytehjmakiljhjdaa
namespace Go.Proofs.Ytehjmakiljhjdaa
open Go Go.RowKit Go.Proofs.Ytehjmakiljhjdaa.VW
attribute [local irreducible] W Ops OrdA VW.Ord OrdX Wi OpsI OrdF
def cnL (p : List Int → Bool) (L : List (List Int)) : Nat := (L.filter p).length
theorem cnL_snoc (p : List Int → Bool) (L : List (List Int)) (a : List Int) : cnL p (L ++ [a]) = cnL p L + if p a = true then 1 else 0 := by
  unfold cnL
  rw [List.filter_append, List.length_append]
  congr 1
  by_cases h : p a <;> simp [h]
theorem cnL_le (p : List Int → Bool) (L : List (List Int)) : cnL p L ≤ L.length := List.length_filter_le _ _
def leT (c : List (List Int)) (most : Int) (a : List Int) : Bool := decide (totP c a c.length ≤ most)
set_option maxHeartbeats 2000000 in
theorem Within_c {w : World} {cv : Value} {c : List (List Int)} {most : Int} (hM : RowsM w cv c) :
    Calls Try.prog 42 #[cv, .int .i64 most] w (Ret fun r w' => r = (if costsB c = true then .tuple #[.int .i64 (cnL (leT c most) (allL c.length) : Nat), .int .i64 0] else .tuple #[.int .i64 0, .int .i64 2]) ∧ Below w.heap.size w w') := by
  obtain ⟨Ac, cc, rfl⟩ := hM.sl
  refine calls_W (vs := [_, _]) Try.func42 rfl (by kernel_rfl) rfl ?_
  (repeat (first | with_reducible refine W.seq ?_ | with_reducible refine W.region ?_))
  refine Ops.box rfl rfl rfl rfl (fun w1 b2 hM2 => ?_)
  refine Ops.box rfl rfl rfl rfl (fun w2 b3 hM3 => ?_)
  have h12 := Mk.bel hM2
  have h23 := Mk.bel hM3
  have e2 := hM2.r_eq
  have e3 := hM3.r_eq
  have s2 := hM2.size
  have s3 := hM3.size
  have hb : Below w.heap.size w w2 := Below.via h12 h23
  have B2 : Blk w2 b2 #[.slice Ac c.length cc] 22 := Blk.kp hM2.at_ (Kp.of_below (S := fun _ => False) h23) (fun e => e)
  have B3 : Blk w2 b3 #[.int .i64 most] 3 := hM3.at_
  have hM' := hM.below hb
  have hb22 : Below w2.heap.size w2 w2 := Below.refl _ _
  (repeat (first | with_reducible refine W.seq ?_ | with_reducible refine Ops.nil ?_ | with_reducible refine W.region ?_ | refine z_p (kk := ?_) | refine z_d (kk := ?_)))
  refine Ops.call rfl rfl rfl rfl rfl (areCosts_c hM') (fun r w4 hR => ?_)
  obtain ⟨rfl, hb4⟩ := hR
  have hb04 := Below.via hb hb4
  cases hc : costsB c with
  | false =>
    (repeat (first | with_reducible refine Ops.nil ?_ | refine z_p (kk := ?_)))
    refine W.condT rfl (by first | rfl | assumption | (simp only [bnf] <;> omega) | (simp only [*, bnf]; done) | fail) ?_
    (repeat (first | with_reducible refine W.seq ?_ | with_reducible refine Ops.nil ?_ | with_reducible refine W.region ?_ | refine z_p (kk := ?_)))
    refine W.fret rfl ⟨?_, hb04⟩
    rw [if_neg (by simp)]
    rfl
  | true =>
    have hC := costs_iff.1 hc
    have hn7 := hC.n7
    have hL := levL_lt (n := c.length) (i := c.length) hn7 hn7
    change (allL c.length).length ≤ 823543 at hL
    rw [if_pos rfl]
    (repeat (first | with_reducible refine Ops.nil ?_ | refine z_p (kk := ?_)))
    refine W.condF rfl (by first | rfl | assumption | (simp only [bnf] <;> omega) | (simp only [*, bnf]; done) | fail) ?_
    (repeat (first | with_reducible refine W.seq ?_ | with_reducible refine W.region ?_ | with_reducible refine W.skip ?_))
    refine Ops.alloc rfl rfl rfl rfl (fun w5 b6 hM6 => ?_)
    have h45 := Mk.bel hM6
    have e6 := hM6.r_eq
    have s6 := hM6.size
    refine Ops.st rfl rfl rfl rfl rfl rfl rfl hM6.at_ (by exact Nat.zero_lt_one) (fun w6 hu6 => ?_)
    have B6 : Blk w6 b6 #[.int .i64 0] 3 := hu6.blk
    have hb26 : Below w2.heap.size w2 w6 := Below.put (Below.via hb4 h45) hu6.kp (fun i e => by have := hb4.size; omega)
    refine Ops.nil ?_
    refine W.toJ (JW.seq (by exact rfl) ?_)
    (repeat (first | with_reducible refine W.region ?_ | refine z_D (kk := ?_)))
    refine Ops.call rfl rfl rfl rfl rfl all_c (fun rv wE hR => ?_)
    obtain ⟨b90, rfl, hB90, hge, hlE⟩ := hR
    have hb2E := Below.via hb26 hlE
    have hb0E := Below.via hb hb2E
    have B6E : Blk wE b6 #[.int .i64 0] 3 := B6.kp (Kp.of_below (S := fun _ => False) hlE) (fun e => e)
    have B2E : Blk wE b2 #[.slice Ac c.length cc] 22 := B2.kp (Kp.of_below (S := fun _ => False) hb2E) (fun e => e)
    have B3E : Blk wE b3 #[.int .i64 most] 3 := B3.kp (Kp.of_below (S := fun _ => False) hb2E) (fun e => e)
    have hB90' : Blk wE b90 #[.slice Ac c.length cc] 71 := hB90
    have hME := hM'.below hb2E
    have g6 := B6.lt
    have g6E := B6E.lt
    have g2E := B2E.lt
    have g3E := B3E.lt
    have s26 := hb26.size
    have s4 := hb4.size
    refine Ops.nil (W.endl ?_)
    refine JW.sub (ρ' := [(2, .pointer (some ⟨b2, 0, none⟩)), (3, .pointer (some ⟨b3, 0, none⟩)), (6, .pointer (some ⟨b6, 0, none⟩)), (12, .func (.func 90) #[] #[.pointer (some ⟨b90, 0, none⟩)])]) (by repeat (first | exact trivial | refine And.intro rfl ?_)) ?_
    refine JW.alls (b1 := b90) (n := c.length) (A := Ac) (cap := cc) (own0 := fun k => k = b6) (I := fun done own W => (∀ k, own k ↔ k = b6) ∧ Kp (fun k => k = b6) wE W ∧ Blk W b6 #[.int .i64 (cnL (leT c most) done : Nat)] 3)
      hn7 rfl (by exact rfl) (by exact rfl) hB90' (by omega) (fun x hx => by omega) (fun done own W W' h k => ?_) ⟨fun k => Iff.rfl, Kp.of_below (Below.refl _ _), B6E⟩ (fun L done own a A m wp hL2 h hpre hA hs hm ho hW => ?_) (fun D w9 own hD h hdf => ?_)
    · obtain ⟨q1, q2, q3⟩ := h
      exact ⟨q1, (q2.trans k).mono (fun i hi e => by omega), q3.kp k (fun e => by omega)⟩
    · refine Wi.regionN rfl rfl ?_
      (repeat (first | with_reducible refine Ops.nil ?_ | refine z_p (kk := ?_)))
      refine W.endl ⟨rfl, rfl, fun wq h' hsq hwq => ?_⟩
      obtain ⟨q1, q2, q3⟩ := h'
      have B2q := B2E.kp q2 (fun e => by omega)
      have B3q := B3E.kp q2 (fun e => by omega)
      have hMq : RowsM wq (.slice Ac c.length cc) c := by
        have hbel : Below w.heap.size w wq := Below.put hb0E q2 (fun i e => by have := hb.size; omega)
        exact hM.below hbel
      have hbqq : Below wq.heap.size wq wq := Below.refl _ _
      have hdl : done.length < 823543 := by
        obtain ⟨rest, e⟩ := hpre
        have := congrArg List.length e
        simp at this
        omega
      have hcl := cnL_le (leT c most) done
      have hsn := cnL_snoc (leT c most) done a
      have hal := hA.1
      refine Wi.block (Wi.seq (Wi.ordA 99 [(0, 2), (1, 1), (2, 2), (3, 2), (4, 1)] rfl (by kernel_rfl) (by kernel_rfl) (by kernel_rfl) rfl (by kernel_rfl) ?_))
      (repeat (first | refine x_p (kk := ?_) | refine x_D (kk := ?_)))
      refine OrdA.call rfl rfl rfl rfl rfl rfl rfl (fun w' hw' => Calls.same hw' (total_c (hMq.below hw') hC (Sl.below hsq hw') (fun q hq => (hA.2 q hq).1) (by rw [hal]; exact Nat.le_refl _))) ?_
      rw [hal]
      (repeat (first | refine x_p (kk := ?_) | refine x_D (kk := ?_)))
      refine OrdA.nil (fun wr hbr => W.endl ?_)
      have q3r := q3.kp (Kp.of_below (S := fun _ => False) hbr) (fun e => e)
      refine Wi.cond rfl (fun hc => ?_) (fun hc => Wi.skip ⟨rfl, own, ⟨q1, (q2.trans (Kp.of_below (S := fun k => k = b6) hbr)).mono (fun i hi e => by omega), ?_⟩, Kp.of_below hbr, fun x h => h, fun x h => .inl h, fun x h => by have := (q1 x).1 h; have := hbr.size; have := q3.lt; omega⟩)
      · have hp : leT c most a = true := hc
        rw [hp, if_pos rfl] at hsn
        refine Wi.regionN rfl rfl ?_
        (repeat (first | refine z_a (kk := ?_) | refine z_d (kk := ?_)))
        refine Ops.st rfl rfl rfl rfl rfl rfl rfl q3r (by simp) (fun ws hus => Ops.nil (W.endl ?_))
        have hkk : Kp (fun k => k = b6) wq ws := ((Kp.of_below (S := fun k => k = b6) hbr).trans hus.kp).mono (fun i hi e => by rcases e with e | e <;> exact e)
        refine ⟨rfl, own, ⟨q1, (q2.trans hkk).mono (fun i hi e => by rcases e with e | e <;> exact e), ?_⟩, hkk.mono (fun i hi e => (q1 i).2 e), fun x h => h, fun x h => .inl h, fun x h => by have := (q1 x).1 h; have := hkk.size; have := q3.lt; omega⟩
        rw [hsn]
        simpa using hus.blk
      · have hp : leT c most a = false := hc
        rw [hsn, hp, if_neg (by simp), Nat.add_zero]
        exact q3r
    · obtain ⟨q1, q2, q3⟩ := h
      have hb99 : Below w9.heap.size w9 w9 := Below.refl _ _
      (repeat (first | with_reducible refine W.seq ?_ | with_reducible refine Ops.nil ?_ | with_reducible refine W.region ?_ | refine z_p (kk := ?_) | refine z_d (kk := ?_)))
      refine W.ret ⟨rfl, hdf, _, fun a hr => run_results hr rfl, rfl, ?_⟩
      exact Below.put (Below.put hb0E q2 (fun i e => by have := hb.size; omega)) (kp_putObj (r := D) (.deferred none)) (fun k e => by have := hb0E.size; omega)
end Go.Proofs.Ytehjmakiljhjdaa
namespace Go.Proofs.Ytehjmakiljhjdaa
open Go Go.RowKit Go.Proofs.Ytehjmakiljhjdaa.VW
attribute [local irreducible] W Ops OrdA VW.Ord OrdX Wi OpsI OrdF
def cmI (x y : Int) : Int := if x < y then -1 else if x > y then 1 else 0
theorem isNaN_c (x : Int) (w : World) : Calls Try.prog 92 #[.int .i64 x] w (Ret fun v w' => v = .bool false ∧ w' = w) := by
  refine calls_W (vs := [_]) Try.func92 rfl (by kernel_rfl) rfl ?_
  (repeat (first | with_reducible refine W.seq ?_ | with_reducible refine Ops.nil ?_ | with_reducible refine W.region ?_ | refine z_p (kk := ?_)))
  refine W.fret rfl ⟨?_, rfl⟩
  show Value.bool _ = _
  simp
theorem cmp_c (x y : Int) (w : World) : Calls Try.prog 73 #[.int .i64 x, .int .i64 y] w (Ret fun v w' => v = .int .i64 (cmI x y) ∧ w' = w) := by
  refine calls_W (vs := [_, _]) Try.func73 rfl (by kernel_rfl) rfl ?_
  (repeat (first | with_reducible refine W.seq ?_ | with_reducible refine Ops.nil ?_ | with_reducible refine W.region ?_ | refine z_p (kk := ?_)))
  refine Ops.callS rfl rfl rfl rfl rfl (isNaN_c _ _) ?_
  (repeat (first | with_reducible refine W.seq ?_ | with_reducible refine Ops.nil ?_ | with_reducible refine W.region ?_ | refine z_p (kk := ?_)))
  refine Ops.callS rfl rfl rfl rfl rfl (isNaN_c _ _) ?_
  (repeat (first | with_reducible refine W.seq ?_ | with_reducible refine Ops.nil ?_ | with_reducible refine W.region ?_ | refine z_p (kk := ?_)))
  refine W.condF rfl (by first | rfl | assumption | (simp only [bnf] <;> omega) | (simp only [*, bnf]; done) | fail) ?_
  (repeat (first | with_reducible refine W.seq ?_ | with_reducible refine Ops.nil ?_ | with_reducible refine W.region ?_ | refine z_p (kk := ?_) | with_reducible refine W.skip ?_))
  refine W.condF rfl (by first | rfl | assumption | (simp only [bnf] <;> omega) | (simp only [*, bnf]; done) | fail) ?_
  (repeat (first | with_reducible refine W.seq ?_ | with_reducible refine Ops.nil ?_ | with_reducible refine W.region ?_ | refine z_p (kk := ?_) | with_reducible refine W.skip ?_))
  by_cases h1 : x < y
  · refine W.condT rfl (by first | rfl | assumption | (simp only [bnf] <;> omega) | (simp only [*, bnf]; done) | fail) ?_
    (repeat (first | with_reducible refine W.seq ?_ | with_reducible refine Ops.nil ?_ | with_reducible refine W.region ?_ | refine z_p (kk := ?_)))
    refine W.fret rfl ⟨?_, rfl⟩
    rw [cmI, if_pos h1]; rfl
  · refine W.condF rfl (by first | rfl | assumption | (simp only [bnf] <;> omega) | (simp only [*, bnf]; done) | fail) ?_
    (repeat (first | with_reducible refine W.seq ?_ | with_reducible refine Ops.nil ?_ | with_reducible refine W.region ?_ | refine z_p (kk := ?_) | with_reducible refine W.skip ?_))
    by_cases h2 : x > y
    · refine W.condT rfl (by first | rfl | assumption | (simp only [bnf] <;> omega) | (simp only [*, bnf]; done) | fail) ?_
      (repeat (first | with_reducible refine W.seq ?_ | with_reducible refine Ops.nil ?_ | with_reducible refine W.region ?_ | refine z_p (kk := ?_)))
      refine W.fret rfl ⟨?_, rfl⟩
      rw [cmI, if_neg h1, if_pos h2]; rfl
    · refine W.condF rfl (by first | rfl | assumption | (simp only [bnf] <;> omega) | (simp only [*, bnf]; done) | fail) ?_
      (repeat (first | with_reducible refine W.seq ?_ | with_reducible refine Ops.nil ?_ | with_reducible refine W.region ?_ | refine z_p (kk := ?_) | with_reducible refine W.skip ?_))
      refine W.fret rfl ⟨?_, rfl⟩
      rw [cmI, if_neg h1, if_neg h2]; rfl
def slC : List Int → List Int → Int
  | [], [] => 0
  | [], _ :: _ => -1
  | _ :: _, [] => 1
  | x :: a, y :: b => if cmI x y ≠ 0 then cmI x y else slC a b
theorem cmI_zero {x y : Int} : cmI x y = 0 ↔ x = y := by
  unfold cmI
  split <;> (try split) <;> omega
theorem cmI_neg {x y : Int} : cmI x y < 0 ↔ x < y := by
  unfold cmI
  split <;> (try split) <;> omega
theorem cmI_bd (x y : Int) : -1 ≤ cmI x y ∧ cmI x y ≤ 1 := by
  unfold cmI
  split <;> (try split) <;> omega
theorem slC_drop {a b : List Int} : ∀ i, (∀ q, q < i → a.getD q 0 = b.getD q 0) → i ≤ a.length → i ≤ b.length → slC a b = slC (a.drop i) (b.drop i)
  | 0, _, _, _ => by simp
  | i + 1, h, ha, hb => by
    rw [slC_drop i (fun q hq => h q (by omega)) (by omega) (by omega)]
    have e1 := List.drop_eq_getElem_cons (l := a) (i := i) (by omega)
    have e2 := List.drop_eq_getElem_cons (l := b) (i := i) (by omega)
    have e := h i (by omega)
    simp only [List.getD_eq_getElem?_getD, List.getElem?_eq_getElem (show i < a.length by omega), List.getElem?_eq_getElem (show i < b.length by omega), Option.getD_some] at e
    rw [e1, e2, slC, cmI_zero.2 e]
    simp
theorem slC_at {a b : List Int} {i : Nat} (h : ∀ q, q < i → a.getD q 0 = b.getD q 0) (ha : i < a.length) (hb : i < b.length) (hne : cmI (a.getD i 0) (b.getD i 0) ≠ 0) : slC a b = cmI (a.getD i 0) (b.getD i 0) := by
  rw [slC_drop i h (by omega) (by omega), List.drop_eq_getElem_cons ha, List.drop_eq_getElem_cons hb, slC]
  simp only [List.getD_eq_getElem?_getD, List.getElem?_eq_getElem ha, List.getElem?_eq_getElem hb, Option.getD_some] at hne ⊢
  rw [if_pos hne]
theorem slC_lex : ∀ a b : List Int, (slC a b < 0 ↔ lexB a b = true) ∧ (slC a b = 0 ↔ a = b)
  | [], [] => by simp [slC, lexB]
  | [], _ :: _ => by simp [slC, lexB]
  | _ :: _, [] => by simp [slC, lexB]
  | x :: a, y :: b => by
    have ih := slC_lex a b
    simp only [slC, lexB]
    by_cases e : x = y
    · subst e
      rw [if_neg (by rw [cmI_zero.2 rfl]; simp), if_pos rfl]
      refine ⟨ih.1, ?_⟩
      rw [ih.2]; simp
    · have hne : cmI x y ≠ 0 := fun h => e (cmI_zero.1 h)
      rw [if_pos hne, if_neg e, cmI_neg, decide_eq_true_eq]
      refine ⟨Iff.rfl, ⟨fun h => absurd h hne, fun h => by simp at h; exact absurd h.1 e⟩⟩
set_option maxHeartbeats 1000000 in
theorem slCmp_c {w : World} {av bv : Value} {a b : List Int} (ha : SlI w av a) (hb : SlI w bv b) : Calls Try.prog 74 #[av, bv] w (Ret fun r w' => r = .int .i64 (slC a b) ∧ w' = w) := by
  have hal := Sl.len ha
  have hbl := Sl.len hb
  obtain ⟨Aa, ca, rfl⟩ := Sl.shape ha
  obtain ⟨Ab, cb, rfl⟩ := Sl.shape hb
  refine calls_W (vs := [_, _]) Try.func74 rfl (by kernel_rfl) rfl ?_
  (repeat (first | with_reducible refine W.seq ?_ | with_reducible refine Ops.nil ?_ | with_reducible refine W.region ?_ | refine z_p (kk := ?_) | with_reducible refine W.block ?_ | refine z_l (kk := ?_)))
  refine W.loop (fun m ρ w1 => ∃ (i : Nat), m = a.length - i ∧ i ≤ a.length ∧ i ≤ b.length ∧ w1 = w ∧ ρ = [(0, .slice Aa a.length ca), (1, .slice Ab b.length cb), (9, .slice Aa a.length ca), (10, .int .i64 a.length), (11, .int .i64 i)] ∧ ∀ q, q < i → a.getD q 0 = b.getD q 0)
    ⟨_, _, ⟨0, rfl, Nat.zero_le _, Nat.zero_le _, rfl, rfl, fun q hq => by omega⟩, (by repeat (first | exact trivial | refine And.intro rfl ?_))⟩ ?_
  rintro m ρ w1 ⟨i, rfl, hi, hib, rfl, rfl, heq⟩
  (repeat (first | with_reducible refine W.seq ?_ | with_reducible refine Ops.nil ?_ | with_reducible refine W.region ?_ | refine z_p (kk := ?_)))
  (first | refine W.condD rfl (fun hc => ?_) (fun hc => ?_) | refine W.condE rfl (fun hc => ?_) (fun hc => ?_) | refine W.condN rfl (fun hc => ?_) (fun hc => ?_) | refine W.cond rfl (fun hc => ?_) (fun hc => ?_))
  · have hil : i < a.length := by omega
    (repeat (first | with_reducible refine W.seq ?_ | with_reducible refine Ops.nil ?_ | with_reducible refine W.region ?_ | refine z_p (kk := ?_) | with_reducible refine W.skip ?_ | with_reducible refine W.block ?_ | refine z_l (kk := ?_) | refine z_I (kk := fun _ => ?_)))
    by_cases hge : (i : Int) ≥ b.length
    · refine W.condT rfl (by first | rfl | assumption | (simp only [bnf] <;> omega) | (simp only [*, bnf]; done) | fail) ?_
      (repeat (first | with_reducible refine W.seq ?_ | with_reducible refine Ops.nil ?_ | with_reducible refine W.region ?_ | refine z_p (kk := ?_)))
      refine W.fret rfl ⟨?_, rfl⟩
      have : i = b.length := by omega
      subst this
      rw [slC_drop b.length heq (by omega) (Nat.le_refl _), List.drop_length, List.drop_eq_getElem_cons hil]
      rfl
    · refine W.condF rfl (by first | rfl | assumption | (simp only [bnf] <;> omega) | (simp only [*, bnf]; done) | fail) ?_
      (repeat (first | with_reducible refine W.seq ?_ | with_reducible refine Ops.nil ?_ | with_reducible refine W.region ?_ | refine z_p (kk := ?_) | with_reducible refine W.skip ?_ | refine z_I (kk := fun _ => ?_)))
      refine Ops.callS rfl rfl rfl rfl rfl (cmp_c _ _ _) ?_
      (repeat (first | with_reducible refine W.seq ?_ | with_reducible refine Ops.nil ?_ | with_reducible refine W.region ?_ | refine z_p (kk := ?_)))
      by_cases hz : cmI (a.getD i 0) (b.getD i 0) = 0
      · refine W.condF rfl (by first | rfl | assumption | (simp only [bnf] <;> omega) | (simp only [*, bnf]; done) | fail) ?_
        (repeat (first | with_reducible refine Ops.nil ?_ | with_reducible refine W.region ?_ | refine z_p (kk := ?_) | refine z_a (kk := ?_) | with_reducible refine W.skip ?_ | with_reducible refine W.endb ?_))
        exact W.endl ⟨_, _, ⟨⟨i + 1, rfl, by omega, by omega, rfl, rfl, fun q hq => by
          by_cases e : q = i
          · rw [e]; exact cmI_zero.1 hz
          · exact heq q (by omega)⟩, by omega⟩, (by repeat (first | exact trivial | refine And.intro rfl ?_))⟩
      · refine W.condT rfl (by first | rfl | assumption | (simp only [bnf] <;> omega) | (simp only [*, bnf]; done) | fail) ?_
        (repeat (first | with_reducible refine W.seq ?_ | with_reducible refine Ops.nil ?_ | with_reducible refine W.region ?_ | refine z_p (kk := ?_)))
        refine W.fret rfl ⟨?_, rfl⟩
        rw [slC_at heq hil (by omega) hz]
        rfl
  · have hil : i = a.length := by omega
    subst hil
    (repeat (first | with_reducible refine W.seq ?_ | with_reducible refine Ops.nil ?_ | with_reducible refine W.region ?_ | refine z_p (kk := ?_) | refine W.exit rfl ?_ | refine z_l (kk := ?_)))
    by_cases hlt : (a.length : Int) < b.length
    · refine W.condT rfl (by first | rfl | assumption | (simp only [bnf] <;> omega) | (simp only [*, bnf]; done) | fail) ?_
      (repeat (first | with_reducible refine W.seq ?_ | with_reducible refine Ops.nil ?_ | with_reducible refine W.region ?_ | refine z_p (kk := ?_)))
      refine W.fret rfl ⟨?_, rfl⟩
      rw [slC_drop a.length heq (Nat.le_refl _) hib, List.drop_length, List.drop_eq_getElem_cons (by omega)]
      rfl
    · refine W.condF rfl (by first | rfl | assumption | (simp only [bnf] <;> omega) | (simp only [*, bnf]; done) | fail) ?_
      (repeat (first | with_reducible refine W.seq ?_ | with_reducible refine Ops.nil ?_ | with_reducible refine W.region ?_ | refine z_p (kk := ?_) | with_reducible refine W.skip ?_))
      refine W.fret rfl ⟨?_, rfl⟩
      have : a.length = b.length := by omega
      rw [slC_drop a.length heq (Nat.le_refl _) hib, List.drop_length, this, List.drop_length]
      rfl
/-- The first one that is not 0. -/
def bfS : List Int → Int
  | [] => 0
  | x :: r => if x ≠ 0 then x else bfS r
theorem bfS_drop {l : List Int} : ∀ i, (∀ q, q < i → l.getD q 0 = 0) → i ≤ l.length → bfS l = bfS (l.drop i)
  | 0, _, _ => by simp
  | i + 1, h, hl => by
    rw [bfS_drop i (fun q hq => h q (by omega)) (by omega), List.drop_eq_getElem_cons (by omega), bfS]
    have e := h i (by omega)
    simp only [List.getD_eq_getElem?_getD, List.getElem?_eq_getElem (show i < l.length by omega), Option.getD_some] at e
    rw [if_neg (by simp [e])]
theorem before_c {w : World} {lv : Value} {l : List Int} (hl : SlI w lv l) : Calls Try.prog 72 #[lv] w (Ret fun r w' => r = .int .i64 (bfS l) ∧ w' = w) := by
  have hll := Sl.len hl
  obtain ⟨Al, cl, rfl⟩ := Sl.shape hl
  refine calls_W (vs := [_]) Try.func72 rfl (by kernel_rfl) rfl ?_
  (repeat (first | with_reducible refine W.seq ?_ | with_reducible refine Ops.nil ?_ | with_reducible refine W.region ?_ | refine z_p (kk := ?_) | with_reducible refine W.block ?_ | refine z_l (kk := ?_)))
  refine W.loop (fun m ρ w1 => ∃ (i : Nat), m = l.length - i ∧ i ≤ l.length ∧ w1 = w ∧ ρ = [(5, .slice Al l.length cl), (6, .int .i64 l.length), (7, .int .i64 i)] ∧ ∀ q, q < i → l.getD q 0 = 0)
    ⟨_, _, ⟨0, rfl, Nat.zero_le _, rfl, rfl, fun q hq => by omega⟩, (by repeat (first | exact trivial | refine And.intro rfl ?_))⟩ ?_
  rintro m ρ w1 ⟨i, rfl, hi, rfl, rfl, heq⟩
  (repeat (first | with_reducible refine W.seq ?_ | with_reducible refine Ops.nil ?_ | with_reducible refine W.region ?_ | refine z_p (kk := ?_)))
  (first | refine W.condD rfl (fun hc => ?_) (fun hc => ?_) | refine W.condE rfl (fun hc => ?_) (fun hc => ?_) | refine W.condN rfl (fun hc => ?_) (fun hc => ?_) | refine W.cond rfl (fun hc => ?_) (fun hc => ?_))
  · have hil : i < l.length := by omega
    (repeat (first | with_reducible refine W.seq ?_ | with_reducible refine Ops.nil ?_ | with_reducible refine W.region ?_ | refine z_p (kk := ?_) | with_reducible refine W.skip ?_ | with_reducible refine W.block ?_ | refine z_I (kk := fun _ => ?_)))
    by_cases hz : l.getD i 0 = 0
    · refine W.condF rfl (by first | rfl | assumption | (simp only [bnf] <;> omega) | (simp only [*, bnf]; done) | fail) ?_
      (repeat (first | with_reducible refine Ops.nil ?_ | with_reducible refine W.region ?_ | refine z_p (kk := ?_) | refine z_a (kk := ?_) | with_reducible refine W.skip ?_ | with_reducible refine W.endb ?_))
      exact W.endl ⟨_, _, ⟨⟨i + 1, rfl, by omega, rfl, rfl, fun q hq => by
        by_cases e : q = i
        · rw [e]; exact hz
        · exact heq q (by omega)⟩, by omega⟩, (by repeat (first | exact trivial | refine And.intro rfl ?_))⟩
    · refine W.condT rfl (by first | rfl | assumption | (simp only [bnf] <;> omega) | (simp only [*, bnf]; done) | fail) ?_
      (repeat (first | with_reducible refine W.seq ?_ | with_reducible refine Ops.nil ?_ | with_reducible refine W.region ?_ | refine z_p (kk := ?_)))
      refine W.fret rfl ⟨?_, rfl⟩
      rw [bfS_drop i heq hi, List.drop_eq_getElem_cons hil, bfS]
      have e2 : l[i] = l.getD i 0 := by simp [List.getD_eq_getElem?_getD, hil]
      rw [e2, if_pos hz]
      rfl
  · have hil : i = l.length := by omega
    subst hil
    (repeat (first | with_reducible refine W.seq ?_ | with_reducible refine Ops.nil ?_ | with_reducible refine W.region ?_ | refine z_p (kk := ?_) | refine W.exit rfl ?_))
    refine W.fret rfl ⟨?_, rfl⟩
    rw [bfS_drop l.length heq (Nat.le_refl _), List.drop_length]
    rfl
/-- Does o come before a? -/
def beT (c : List (List Int)) (a o : List Int) : Bool := decide (totP c o c.length < totP c a c.length) || (decide (totP c o c.length = totP c a c.length) && lexB o a)
theorem beT_bf {c : List (List Int)} {a o : List Int} : (bfS [cmI (totP c o c.length) (totP c a c.length), slC o a] < 0) ↔ beT c a o = true := by
  unfold beT
  simp only [bfS, Bool.or_eq_true, Bool.and_eq_true, decide_eq_true_eq]
  have h1 := cmI_neg (x := totP c o c.length) (y := totP c a c.length)
  have h2 := cmI_zero (x := totP c o c.length) (y := totP c a c.length)
  have h3 := (slC_lex o a).1
  by_cases hz : cmI (totP c o c.length) (totP c a c.length) = 0
  · rw [if_neg (by simp [hz])]
    have he := h2.1 hz
    by_cases hs : slC o a = 0
    · rw [if_neg (by simp [hs])]
      constructor
      · intro h; omega
      · rintro (h | ⟨_, h⟩)
        · omega
        · have := h3.2 h; omega
    · rw [if_pos hs, h3]
      constructor
      · intro h; exact .inr ⟨he, h⟩
      · rintro (h | ⟨_, h⟩)
        · omega
        · exact h
  · rw [if_pos hz, h1]
    constructor
    · intro h; exact .inl h
    · rintro (h | ⟨h, _⟩)
      · exact h
      · exact absurd (h2.2 h) hz
end Go.Proofs.Ytehjmakiljhjdaa
namespace Go.Proofs.Ytehjmakiljhjdaa
open Go Go.RowKit Go.Proofs.Ytehjmakiljhjdaa.VW
attribute [local irreducible] W Ops OrdA VW.Ord OrdX Wi OpsI OrdF
set_option maxHeartbeats 4000000 in
theorem Index_c {w : World} {cv av : Value} {c : List (List Int)} {x : List Int} (hM : RowsM w cv c) (hx : Arg w av x) :
    Calls Try.prog 43 #[cv, av] w (Ret fun r w' => r = (if costsB c = true ∧ Asg x c.length then .tuple #[.int .i64 (cnL (beT c x) (allL c.length) : Nat), .int .i64 0] else .tuple #[.int .i64 0, .int .i64 2]) ∧ Below w.heap.size w w') := by
  obtain ⟨Ac, cc, rfl⟩ := hM.sl
  obtain ⟨Ax, cx, rfl⟩ := Sl.shape hx.1
  refine calls_W (vs := [_, _]) Try.func43 rfl (by kernel_rfl) rfl ?_
  (repeat (first | with_reducible refine W.seq ?_ | with_reducible refine W.region ?_))
  refine Ops.box rfl rfl rfl rfl (fun w1 b2 hM2 => ?_)
  refine Ops.box rfl rfl rfl rfl (fun w2 b3 hM3 => ?_)
  have h12 := Mk.bel hM2
  have h23 := Mk.bel hM3
  have e2 := hM2.r_eq
  have e3 := hM3.r_eq
  have s2 := hM2.size
  have s3 := hM3.size
  have hb : Below w.heap.size w w2 := Below.via h12 h23
  have B2 : Blk w2 b2 #[.slice Ac c.length cc] 22 := Blk.kp hM2.at_ (Kp.of_below (S := fun _ => False) h23) (fun e => e)
  have B3 : Blk w2 b3 #[.slice Ax x.length cx] 23 := hM3.at_
  have hM' := hM.below hb
  have hx' := hx.below hb
  have hb22 : Below w2.heap.size w2 w2 := Below.refl _ _
  (repeat (first | with_reducible refine W.seq ?_ | with_reducible refine Ops.nil ?_ | with_reducible refine W.region ?_ | refine z_p (kk := ?_) | refine z_d (kk := ?_)))
  refine Ops.call rfl rfl rfl rfl rfl (areCosts_c hM') (fun r w4 hR => ?_)
  obtain ⟨rfl, hb4⟩ := hR
  have hb04 := Below.via hb hb4
  cases hc : costsB c with
  | false =>
    (repeat (first | with_reducible refine Ops.nil ?_ | refine z_p (kk := ?_) | refine z_n (kk := ?_)))
    refine W.condT rfl (by first | rfl | assumption | (simp only [bnf] <;> omega) | (simp only [*, bnf]; done) | fail) ?_
    (repeat (first | with_reducible refine W.seq ?_ | with_reducible refine Ops.nil ?_ | with_reducible refine W.region ?_ | refine z_p (kk := ?_)))
    refine W.fret rfl ⟨?_, hb04⟩
    rw [if_neg (by simp)]
    rfl
  | true =>
    have hC := costs_iff.1 hc
    have hn7 := hC.n7
    have hL := levL_lt (n := c.length) (i := c.length) hn7 hn7
    change (allL c.length).length ≤ 823543 at hL
    (repeat (first | refine z_p (kk := ?_) | refine z_y (kk := ?_) | refine z_D (kk := ?_)))
    refine Ops.call rfl rfl rfl rfl rfl (isAsg_c (hM'.below hb4) hn7 (hx'.below hb4)) (fun r w5 hR => ?_)
    obtain ⟨rfl, rfl⟩ := hR
    by_cases hA : Asg x c.length
    · rw [if_pos ⟨rfl, hA⟩, decide_eq_true hA]
      have hxl := hA.1
      (repeat (first | with_reducible refine Ops.nil ?_ | refine z_p (kk := ?_) | refine z_y (kk := ?_)))
      refine W.condF rfl (by first | rfl | assumption | (simp only [bnf] <;> omega) | (simp only [*, bnf]; done) | fail) ?_
      (repeat (first | with_reducible refine W.seq ?_ | with_reducible refine W.region ?_ | with_reducible refine W.skip ?_ | refine z_D (kk := ?_)))
      refine Ops.call rfl rfl rfl rfl rfl (total_c (hM'.below hb4) hC (Sl.below hx'.1 hb4) (fun q hq => (hA.2 q hq).1) (by rw [hA.1]; exact Nat.le_refl _)) (fun r w6 hR => ?_)
      obtain ⟨rfl, rfl⟩ := hR
      rw [hA.1]
      refine Ops.alloc rfl rfl rfl rfl (fun w7 b6 hM6 => ?_)
      have h67 := Mk.bel hM6
      have e6 := hM6.r_eq
      have s6 := hM6.size
      refine Ops.st rfl rfl rfl rfl rfl rfl rfl hM6.at_ (by exact Nat.zero_lt_one) (fun w8 hu8 => ?_)
      have B6 : Blk w8 b6 #[.int .i64 (totP c x c.length)] 3 := hu8.blk
      have su8 := hu8.size
      (repeat (first | with_reducible refine W.seq ?_ | with_reducible refine Ops.nil ?_ | with_reducible refine W.region ?_))
      refine Ops.alloc rfl rfl rfl rfl (fun w9 b7 hM7 => ?_)
      have e7 := hM7.r_eq
      have s7 := hM7.size
      refine Ops.st rfl rfl rfl rfl rfl rfl rfl hM7.at_ (by exact Nat.zero_lt_one) (fun w10 hu10 => ?_)
      have B7 : Blk w10 b7 #[.int .i64 0] 3 := hu10.blk
      have B6' : Blk w10 b6 #[.int .i64 (totP c x c.length)] 3 := (B6.kp hM7.kp (fun e => e)).kp hu10.kp (fun e => by omega)
      have s4 := hb4.size
      have hb210 : Below w2.heap.size w2 w10 := Below.put (Below.put (Below.put (Below.via hb4 h67) hu8.kp (fun i e => by omega)) hM7.kp (fun _ e => e.elim)) hu10.kp (fun i e => by omega)
      refine Ops.nil ?_
      refine W.toJ (JW.seq (by exact rfl) ?_)
      (repeat (first | with_reducible refine W.region ?_ | refine z_D (kk := ?_)))
      refine Ops.call rfl rfl rfl rfl rfl all_c (fun rv wE hR => ?_)
      obtain ⟨b90, rfl, hB90, hge, hlE⟩ := hR
      have hb2E := Below.via hb210 hlE
      have hb0E := Below.via hb hb2E
      have B7E : Blk wE b7 #[.int .i64 0] 3 := B7.kp (Kp.of_below (S := fun _ => False) hlE) (fun e => e)
      have B6E : Blk wE b6 #[.int .i64 (totP c x c.length)] 3 := B6'.kp (Kp.of_below (S := fun _ => False) hlE) (fun e => e)
      have B2E : Blk wE b2 #[.slice Ac c.length cc] 22 := B2.kp (Kp.of_below (S := fun _ => False) hb2E) (fun e => e)
      have B3E : Blk wE b3 #[.slice Ax x.length cx] 23 := B3.kp (Kp.of_below (S := fun _ => False) hb2E) (fun e => e)
      have hB90' : Blk wE b90 #[.slice Ac c.length cc] 71 := hB90
      have hME := hM'.below hb2E
      have g7 := B7.lt
      have g7E := B7E.lt
      have g2E := B2E.lt
      have g3E := B3E.lt
      have g6E := B6E.lt
      refine Ops.nil (W.endl ?_)
      refine JW.sub (ρ' := [(2, .pointer (some ⟨b2, 0, none⟩)), (3, .pointer (some ⟨b3, 0, none⟩)), (6, .pointer (some ⟨b6, 0, none⟩)), (7, .pointer (some ⟨b7, 0, none⟩)), (22, .func (.func 90) #[] #[.pointer (some ⟨b90, 0, none⟩)])]) (by repeat (first | exact trivial | refine And.intro rfl ?_)) ?_
      refine JW.alls (b1 := b90) (n := c.length) (A := Ac) (cap := cc) (own0 := fun k => k = b7) (I := fun done own W => (∀ k, own k ↔ k = b7) ∧ Kp (fun k => k = b7) wE W ∧ Blk W b7 #[.int .i64 (cnL (beT c x) done : Nat)] 3)
        hn7 rfl (by exact rfl) (by exact rfl) hB90' (by omega) (fun x hx => by omega) (fun done own W W' h k => ?_) ⟨fun k => Iff.rfl, Kp.of_below (Below.refl _ _), B7E⟩ (fun L done own a A m wp hL2 h hpre hAa hs hm ho hW => ?_) (fun D w9 own hD h hdf => ?_)
      · obtain ⟨q1, q2, q3⟩ := h
        exact ⟨q1, (q2.trans k).mono (fun i hi e => by omega), q3.kp k (fun e => by omega)⟩
      · refine Wi.regionN rfl rfl ?_
        (repeat (first | with_reducible refine Ops.nil ?_ | refine z_p (kk := ?_)))
        refine W.endl ⟨rfl, rfl, fun wq h' hsq hwq => ?_⟩
        obtain ⟨q1, q2, q3⟩ := h'
        have B2q := B2E.kp q2 (fun e => by omega)
        have B3q := B3E.kp q2 (fun e => by omega)
        have B6q := B6E.kp q2 (fun e => by omega)
        have hbel : Below w.heap.size w wq := Below.put hb0E q2 (fun i e => by have := hb.size; omega)
        have hMq : RowsM wq (.slice Ac c.length cc) c := hM.below hbel
        have hxq := Sl.below hx.1 hbel
        have hbqq : Below wq.heap.size wq wq := Below.refl _ _
        have hdl : done.length < 823543 := by
          obtain ⟨rest, e⟩ := hpre
          have := congrArg List.length e
          simp at this
          omega
        have hcl := cnL_le (beT c x) done
        have hsn := cnL_snoc (beT c x) done a
        have hal := hAa.1
        have hsq' : SlI wq (.slice A c.length m) a := by rw [← hal]; exact hsq
        refine Wi.block (Wi.seq (Wi.ordA 8 [(0, 2), (1, 1), (2, 2), (3, 2), (4, 2), (5, 1), (6, 2), (7, 2), (8, 0), (9, 0), (10, 1)] rfl (by kernel_rfl) (by kernel_rfl) (by kernel_rfl) rfl (by kernel_rfl) ?_))
        (repeat (first | refine x_p (kk := ?_) | refine x_D (kk := ?_)))
        refine OrdA.call rfl rfl rfl rfl rfl rfl rfl (fun w' hw' => Calls.same hw' (total_c (hMq.below hw') hC (Sl.below hsq hw') (fun q hq => (hAa.2 q hq).1) (by rw [hal]; exact Nat.le_refl _))) ?_
        rw [hal]
        (repeat (first | refine x_D (kk := ?_)))
        refine OrdA.call rfl rfl rfl rfl rfl rfl rfl (fun w' hw' => Calls.same hw' (cmp_c _ _ _)) ?_
        (repeat (first | refine x_p (kk := ?_) | refine x_D (kk := ?_)))
        refine OrdA.call rfl rfl rfl rfl rfl rfl rfl (fun w' hw' => Calls.same hw' (slCmp_c (Sl.below hsq' hw') (Sl.below hxq hw'))) ?_
        refine OrdA.eff rfl (fun wr hbr => Ops.bs2 rfl rfl rfl rfl rfl rfl rfl rfl rfl rfl rfl (fun ws rs hMs => Ops.nil (W.endl ?_)))
        have hbqs : Below wq.heap.size wq ws := Below.put hbr hMs.kp (fun _ e => e.elim)
        refine VW.Ord.effT rfl (Ops.callS rfl rfl rfl rfl rfl (before_c (lit2 hMs)) (Ops.nil (W.endl ?_)))
        (repeat (first | refine y_p (kk := ?_)))
        refine VW.Ord.nil (W.endl ?_)
        have q3s := q3.kp (Kp.of_below (S := fun _ => False) hbqs) (fun e => e)
        have hbb := beT_bf (c := c) (a := x) (o := a)
        refine Wi.cond rfl (fun hc => ?_) (fun hc => Wi.skip ⟨rfl, own, ⟨q1, (q2.trans (Kp.of_below (S := fun k => k = b7) hbqs)).mono (fun i hi e => by omega), ?_⟩, Kp.of_below hbqs, fun x h => h, fun x h => .inl h, fun x h => by have := (q1 x).1 h; have := hbqs.size; have := q3.lt; omega⟩)
        · have hp : beT c x a = true := hbb.1 (by simpa using hc)
          rw [hp, if_pos rfl] at hsn
          refine Wi.regionN rfl rfl ?_
          have hbss : Below ws.heap.size ws ws := Below.refl _ _
          (repeat (first | refine z_a (kk := ?_) | refine z_d (kk := ?_)))
          refine Ops.st rfl rfl rfl rfl rfl rfl rfl q3s (by simp) (fun wt hut => Ops.nil (W.endl ?_))
          have hkk : Kp (fun k => k = b7) wq wt := ((Kp.of_below (S := fun k => k = b7) hbqs).trans hut.kp).mono (fun i hi e => by rcases e with e | e <;> exact e)
          refine ⟨rfl, own, ⟨q1, (q2.trans hkk).mono (fun i hi e => by rcases e with e | e <;> exact e), ?_⟩, hkk.mono (fun i hi e => (q1 i).2 e), fun x h => h, fun x h => .inl h, fun x h => by have := (q1 x).1 h; have := hkk.size; have := q3.lt; omega⟩
          rw [hsn]
          simpa using hut.blk
        · have hp : beT c x a = false := by
            cases hbe : beT c x a with
            | false => rfl
            | true => have := hbb.2 hbe; simp at hc; omega
          rw [hsn, hp, if_neg (by simp), Nat.add_zero]
          exact q3s
      · obtain ⟨q1, q2, q3⟩ := h
        have hb99 : Below w9.heap.size w9 w9 := Below.refl _ _
        (repeat (first | with_reducible refine W.seq ?_ | with_reducible refine Ops.nil ?_ | with_reducible refine W.region ?_ | refine z_p (kk := ?_) | refine z_d (kk := ?_)))
        refine W.ret ⟨rfl, hdf, _, fun a hr => run_results hr rfl, rfl, ?_⟩
        exact Below.put (Below.put hb0E q2 (fun i e => by have := hb.size; omega)) (kp_putObj (r := D) (.deferred none)) (fun k e => by have := hb0E.size; omega)
    · rw [if_neg (by simp [hA]), decide_eq_false hA]
      (repeat (first | with_reducible refine Ops.nil ?_ | refine z_p (kk := ?_) | refine z_y (kk := ?_)))
      refine W.condT rfl (by first | rfl | assumption | (simp only [bnf] <;> omega) | (simp only [*, bnf]; done) | fail) ?_
      (repeat (first | with_reducible refine W.seq ?_ | with_reducible refine Ops.nil ?_ | with_reducible refine W.region ?_ | refine z_p (kk := ?_)))
      exact W.fret rfl ⟨rfl, hb04⟩
end Go.Proofs.Ytehjmakiljhjdaa
namespace Go.Proofs.Ytehjmakiljhjdaa
open Go Go.RowKit Go.Proofs.Ytehjmakiljhjdaa.VW
def DB (w w' : World) : Prop := Below w.heap.size w w' ∧ w.drawn ≤ w'.drawn
theorem DB.grow {w w' : World} (h : DB w w') : ∃ q os, w' = Go.Sort.grow (w.drewN q) os := by
  obtain ⟨hb, hd⟩ := h
  obtain ⟨k1, k2, k3, k4, k5⟩ := Kp.of_below (S := fun _ => False) hb
  refine ⟨w'.drawn - w.drawn, w'.heap.extract w.heap.size w'.heap.size, ?_⟩
  cases w
  cases w'
  simp only [Go.Sort.grow, World.drewN] at *
  subst k1 k2 k3
  simp only [World.mk.injEq, and_true, true_and]
  refine ⟨?_, by omega⟩
  refine Array.ext (by simp; omega) fun i h1 h2 => ?_
  rw [Array.getElem_append]
  split
  · rename_i hi
    have := k5 i hi (fun e => e)
    rw [Array.getElem?_eq_getElem h1, Array.getElem?_eq_getElem hi] at this
    exact Option.some.inj this
  · rename_i hi
    simp only [Array.getElem_extract]
    congr 1
    omega
theorem DB.same {P : Program} {f : FuncId} {args : Array Value} {v : Value} {a b : World} (hF : DB a b) (h : Calls P f args b (Ret fun r w' => r = v ∧ w' = b)) : Calls P f args b (Ret fun r w' => r = v ∧ DB a w') :=
  h.mono fun e w' ⟨r, he, hr, hb⟩ => ⟨r, he, hr, by rw [hb]; exact hF⟩
section
variable {P : Program} [hT : Tab P] {n : Nat} {ds : List Deferred} {Φ : Post} {k : List It} {ρ : E} {w : World} {all : Array Oper} {l : List Oper} {s : Nat} {F : World → Prop} {π : List (Nat × Nat)} {L : List Bool}
omit hT in
theorem W.ordD {id : Nat} {ops : Array Oper} (s : Nat) (π : List (Nat × Nat)) (hm : P.follows .mixedOrders = true) (hs : Region.noSelect ops = true) (hlen : π.length = ops.size) (hc : chkA ops s π (List.replicate π.length false) = true) (hΦ : ∀ c ρ w, ¬ Φ (.panic c) ρ w)
    (h : OrdA P n ds ops k Φ s (DB w) π (List.replicate π.length false) ρ) : W P n ds (.code (.region id ops true) :: k) Φ ρ w := by
  intro hi a hr hd
  refine wp_region_any hm ?_
  have := wpAny_of_A _ _ _ (h hc hs (by simpa [inB] using hi) (by rw [List.toArray_replicate]; exact Cl.start _) hΦ a hr hd) w.drew ⟨Kp.below (kp_drew w) (Nat.le_refl _) (fun _ _ e => e), Nat.le_succ _⟩
  rw [← hlen]
  rw [List.toArray_replicate] at this
  exact this
theorem Ops.bs2D {o : Oper} {d t e : Nat} {x y : Operand} {u v z : Value} (ho : o.op = .buildSlice t 2 #[(0, x), (1, y)]) (hd : o.dst = some d) (hg : o.guard = none)
    (ht : tyD P t = some (.slice e)) (hs : tyS P e = some 1) (hz : tyZ P e = some z) (hzs : z.cells.size = 1) (hx : ev ρ x = some u) (hy : ev ρ y = some v) (h1 : u.oneCell' = true) (h2 : v.oneCell' = true)
    (hk : ∀ w' r, Mk w w' r (.cells #[u, v] e) → w'.drawn = w.drawn → Ops none P n ds all k Φ l ((d, .slice (some ⟨r, 0, none⟩) 2 2) :: ρ) w') : Ops none P n ds all k Φ (o :: l) ρ w := by
  refine Ops.val hd hg (fun a hr => ?_) (hk _ _ (mk_alloc w _) (by rfl))
  have hcs : u.cells = #[u] := by cases u <;> simp_all [Value.oneCell', Value.cells]
  have hcs2 : v.cells = #[v] := by cases v <;> simp_all [Value.oneCell', Value.cells]
  have hr1 : (Array.range 2 : Array Nat) = #[0, 1] := by rfl
  simp [execOp, ho, Instr.buildSlice, hr.ev hx, hr.ev hy, run_und (td_slice (tyD_ok ht)), VW.run_sizeOf hs, VW.run_zeroV hz, hr1, Instr.fill, hcs, hcs2, newRow, newObj, Sem.run]
end
attribute [local irreducible] W Ops OrdA VW.Ord OrdX Wi OpsI OrdF
def cfA (c : List (List Int)) (a b : List Int) : Int := bfS [cmI (totP c a c.length) (totP c b c.length), slC a b]
set_option maxHeartbeats 2000000 in
theorem Item1_c {w : World} {cv av bv : Value} {b2 : Nat} {c : List (List Int)} {a b : List Int} (hB : Blk w b2 #[cv] 22) (hM : RowsM w cv c) (hC : Cst c) (ha : SlI w av a) (hb : SlI w bv b) (hA : Asg a c.length) (hA2 : Asg b c.length) :
    Calls Try.prog 81 #[av, bv, .pointer (some ⟨b2, 0, none⟩)] w (Ret fun r w' => r = .int .i64 (cfA c a b) ∧ DB w w') := by
  obtain ⟨Ac, cc, rfl⟩ := hM.sl
  obtain ⟨Aa, ma, rfl⟩ := Sl.shape ha
  obtain ⟨Ab, mb, rfl⟩ := Sl.shape hb
  refine calls_W (vs := [_, _, _]) Try.func81 rfl (by kernel_rfl) rfl ?_
  (repeat (first | with_reducible refine W.seq ?_ | with_reducible refine Ops.nil ?_ | with_reducible refine W.region ?_ | refine z_p (kk := ?_)))
  refine W.ordD 10 [(0, 2), (1, 1), (2, 2), (3, 2), (4, 1), (5, 2), (6, 2), (7, 1), (8, 1), (9, 2), (10, 0), (11, 0), (12, 1)] rfl (by kernel_rfl) rfl (by kernel_rfl) (fun _ _ _ h => h) ?_
  (repeat (first | refine x_p (kk := ?_) | refine x_D (hF := fun _ h => h.1) (kk := ?_)))
  refine OrdA.call rfl rfl rfl rfl rfl rfl rfl (fun w' hw' => DB.same hw' (total_c (hM.below hw'.1) hC (Sl.below ha hw'.1) (fun q hq => (hA.2 q hq).1) (by rw [hA.1]; exact Nat.le_refl _))) ?_
  rw [hA.1]
  (repeat (first | refine x_p (kk := ?_) | refine x_D (hF := fun _ h => h.1) (kk := ?_)))
  refine OrdA.call rfl rfl rfl rfl rfl rfl rfl (fun w' hw' => DB.same hw' (total_c (hM.below hw'.1) hC (Sl.below hb hw'.1) (fun q hq => (hA2.2 q hq).1) (by rw [hA2.1]; exact Nat.le_refl _))) ?_
  rw [hA2.1]
  refine OrdA.call rfl rfl rfl rfl rfl rfl rfl (fun w' hw' => DB.same hw' (cmp_c _ _ _)) ?_
  (repeat (first | refine x_p (kk := ?_)))
  have ha' : SlI w (.slice Aa c.length ma) a := by rw [← hA.1]; exact ha
  have hb' : SlI w (.slice Ab c.length mb) b := by rw [← hA2.1]; exact hb
  refine OrdA.call rfl rfl rfl rfl rfl rfl rfl (fun w' hw' => DB.same hw' (slCmp_c (Sl.below ha' hw'.1) (Sl.below hb' hw'.1))) ?_
  refine OrdA.eff rfl (fun wr hbr => Ops.bs2D rfl rfl rfl rfl rfl rfl rfl rfl rfl rfl rfl (fun ws rs hMs hds => Ops.nil (W.endl ?_)))
  refine VW.Ord.effT rfl (Ops.callS rfl rfl rfl rfl rfl (before_c (lit2 hMs)) (Ops.nil (W.endl ?_)))
  (repeat (first | refine y_p (kk := ?_)))
  refine VW.Ord.nil ?_
  exact W.fret rfl ⟨rfl, Below.put hbr.1 hMs.kp (fun _ e => e.elim), by rw [hds]; exact hbr.2⟩
end Go.Proofs.Ytehjmakiljhjdaa
namespace Go.Proofs.Ytehjmakiljhjdaa.VW
open Go Go.RowKit
/-- A row is written in place. -/
theorem RW.wrow {w0 w w' : World} {ov : Value} {cvs : List Value} {n j : Nat} {T : Nat → List Int} {xs : List Int} (h : RW w0 w ov cvs n T) (hj : j < n) (hO : OI 3 (Value.int .i64) w0 w' (cvs.getD j undef) xs) (k : Kp (fun b => (cvs.getD j undef).ownBlock = some b) w w') :
    RW w0 w' ov cvs n (fun q => if q = j then xs else T q) := by
  refine ⟨h.o.kp k (fun i hi => ⟨(h.rows j hj).ge i hi, (h.apart j hj i hi).1⟩), h.len, fun q hq => ?_, h.apart⟩
  by_cases e : q = j
  · subst e; simp only [if_true]; exact hO
  · simp only [e, if_false]
    exact (h.rows q hq).kp k (fun i hi => ⟨(h.rows j hj).ge i hi, (h.apart j hj i hi).2 q hq e⟩)
end Go.Proofs.Ytehjmakiljhjdaa.VW
/- Rows of the call's own whose elements have two cells: an element is a number z, its cells fa z and fb z. -/
namespace Go.Proofs.Ytehjmakiljhjdaa.VW
open Go Go.RowKit
def fl2 (fa fb : Int → Value) : List Int → List Value
  | [] => []
  | z :: r => fa z :: fb z :: fl2 fa fb r
theorem fl2_len (fa fb : Int → Value) : ∀ os : List Int, (fl2 fa fb os).length = os.length * 2
  | [] => rfl
  | z :: r => by simp only [fl2, List.length_cons, fl2_len fa fb r]; omega
theorem fl2_get {fa fb : Int → Value} : ∀ (os : List Int) (i : Nat), i < os.length → (fl2 fa fb os)[i * 2]? = some (fa (os.getD i 0)) ∧ (fl2 fa fb os)[i * 2 + 1]? = some (fb (os.getD i 0))
  | [], i, h => by simp at h
  | z :: r, 0, _ => ⟨rfl, rfl⟩
  | z :: r, i + 1, h => by
    have := fl2_get (fa := fa) (fb := fb) r i (by simpa using h)
    rw [show (i + 1) * 2 = i * 2 + 2 by omega]
    simpa [fl2] using this
theorem fl2_set {fa fb : Int → Value} {u : Int} : ∀ (os : List Int) (i : Nat), ((fl2 fa fb os).set (i * 2) (fa u)).set (i * 2 + 1) (fb u) = fl2 fa fb (os.set i u)
  | [], i => rfl
  | z :: r, 0 => rfl
  | z :: r, i + 1 => by
    have := fl2_set (fa := fa) (fb := fb) (u := u) r i
    rw [show (i + 1) * 2 = i * 2 + 1 + 1 by omega]
    simp only [fl2, List.set_cons_succ, this]
structure OJ (e : Nat) (fa fb : Int → Value) (w0 w : World) (ov : Value) (os : List Int) : Prop where
  bel : Below w0.heap.size w0 w
  own : w.ownsRow 0 e 2 ov os.length (fl2 fa fb os)
  ge : ∀ k, ov.ownBlock = some k → w0.heap.size ≤ k
theorem OJ.kp {e : Nat} {fa fb : Int → Value} {w0 w w' : World} {ov : Value} {os : List Int} {S : Nat → Prop} (h : OJ e fa fb w0 w ov os) (k : Kp S w w') (hs : ∀ i, S i → w0.heap.size ≤ i ∧ ov.ownBlock ≠ some i) : OJ e fa fb w0 w' ov os :=
  ⟨Below.put h.bel k (fun i hi => (hs i hi).1), own_kp h.own k (fun i hi e => (hs i e).2 hi), h.ge⟩
theorem OJ.below {e : Nat} {fa fb : Int → Value} {w0 w w' : World} {ov : Value} {os : List Int} (h : OJ e fa fb w0 w ov os) (k : Below w.heap.size w w') : OJ e fa fb w0 w' ov os := h.kp (Kp.of_below (S := fun _ => False) k) (fun _ e => e.elim)
theorem OJ.up {e : Nat} {fa fb : Int → Value} {w0 w1 w : World} {ov : Value} {os : List Int} (h : OJ e fa fb w1 w ov os) (k : Below w0.heap.size w0 w1) : OJ e fa fb w0 w ov os :=
  ⟨Below.via k h.bel, h.own, fun i hi => by have := h.ge i hi; have := k.size; omega⟩
theorem OJ.nil {e : Nat} {fa fb : Int → Value} {w0 w : World} (h : Below w0.heap.size w0 w) : OJ e fa fb w0 w (.slice none 0 0) [] := ⟨h, World.ownsRow_nil w 0 e 2, fun k hk => by simp [Value.ownBlock] at hk⟩
theorem OJ.sh {e : Nat} {fa fb : Int → Value} {w0 w : World} {ov : Value} {os : List Int} (h : OJ e fa fb w0 w ov os) : ∃ A c, ov = .slice A os.length c := by
  rcases h.own.2 with ⟨h2, h3⟩ | ⟨g, cap, cur, h2, _⟩
  · exact ⟨none, 0, by rw [h2, h3]⟩
  · exact ⟨_, _, h2⟩
theorem OJ.at_ {e : Nat} {fa fb : Int → Value} {w0 w : World} {ov : Value} {os : List Int} (h : OJ e fa fb w0 w ov os) (hp : 0 < os.length) : ∃ g c, ov = .slice (some ⟨g, 0, none⟩) os.length c ∧ ∀ i, i < os.length → w.cell? ((⟨g, 0, none⟩ : Addr).add (i * 2)) = some (fa (os.getD i 0)) ∧ w.cell? (((⟨g, 0, none⟩ : Addr).add (i * 2)).add 1) = some (fb (os.getD i 0)) := by
  rcases h.own.2 with ⟨h2, h3⟩ | ⟨g, cap, cur, h2, _⟩
  · omega
  · refine ⟨g, cap, h2, fun i hi => ?_⟩
    obtain ⟨a1, a2⟩ := fl2_get (fa := fa) (fb := fb) os i hi
    refine ⟨h.own.cells (g := g) (by rw [h2]; rfl) _ _ a1, ?_⟩
    have := h.own.cells (g := g) (by rw [h2]; rfl) _ _ a2
    rw [show ((⟨g, 0, none⟩ : Addr).add (i * 2)).add 1 = (⟨g, 0, none⟩ : Addr).add (i * 2 + 1) by simp only [add_lit, Nat.add_assoc]]
    exact this
section
variable {P : Program} [hT : Tab P] {n : Nat} {ds : List Deferred} {Φ : Post} {k : List It} {ρ : E} {w : World} {all : Array Oper} {l : List Oper} {md : Option (List Oper)} {s : Nat} {F : World → Prop} {π : List (Nat × Nat)} {L : List Bool}
/-- An element of two cells, read in a drawn region. -/
theorem OrdA.rdJ {fa fb : Int → Value} {i1 i2 d1 d2 t t' e : Nat} {o1 o2 : Oper} {x y : Operand} {v : Value} {i : Int} {os : List Int} {w0 wr : World} {c1 c2 : Bool}
    (h1 : all[i1]? = some o1) (ho : o1.op = .indexAddr t x y) (hd1 : o1.dst = some d1) (hg1 : gdB all ρ o1.guard = some c1) (hc1 : c1 = true)
    (h2 : all[i2]? = some o2) (ho2 : o2.op = .load t' (.tmp d1)) (hd2 : o2.dst = some d2) (hg2 : ∀ p, gdB all ((d1, .pointer p) :: ρ) o2.guard = some c2) (hc2 : c2 = true)
    (ht : tyD P t = some (.slice e)) (hs : tyS P e = some 2) (ha : tyAgg P t' = some true) (hs2 : tyS P t' = some 2) (hx : ev ρ x = some v) (hy : ev ρ y = some (.int .i64 i)) (hO : OJ e fa fb w0 wr v os) (hF : ∀ w, F w → Below wr.heap.size wr w) (h0 : 0 ≤ i) (hi : i < os.length)
    (hk : ∀ p, OrdA P n ds all k Φ s F π ((L.set i1 true).set i2 true) ((d2, .agg #[fa (os.getD i.toNat 0), fb (os.getD i.toNat 0)]) :: (d1, p) :: ρ)) : OrdA P n ds all k Φ s F ((i1, 1) :: (i2, 2) :: π) L ρ := by
  obtain ⟨g, c, rfl, hc⟩ := hO.at_ (by omega)
  obtain ⟨k1, k2⟩ := hc i.toNat (by omega)
  refine OrdA.pure h1 hd1 hg1 hc1 (fun w => EV.idx ho ht hs hx hy h0 hi) ?_
  exact OrdA.read h2 hd2 (hg2 _) hc2 (fun w hw => EV.ld2 ho2 ha hs2 (ev_top _ _ _) (cell_kp (Kp.of_below (S := fun _ => False) (hF w hw)) k1 (fun e => e)) (cell_kp (Kp.of_below (S := fun _ => False) (hF w hw)) k2 (fun e => e))) (hk _)
/-- An element of two cells, written. -/
theorem Ops.stJ {fa fb : Int → Value} {w0 : World} {o2 : Oper} {d1 t' e : Nat} {z : Operand} {v : Value} {u : Int} {i : Nat} {os : List Int} {a : Addr} {m c : Nat}
    (ho2 : o2.op = .store t' (.tmp d1) z) (hd2 : o2.dst = none) (hg2 : o2.guard = none) (hs' : tyS P t' = some 2) (hv : v = .slice (some a) m c) (hx : ev ρ (.tmp d1) = some (.pointer (some (a.add (i * 2))))) (hz : ev ρ z = some (.agg #[fa u, fb u])) (h1a : (fa u).oneCell' = true) (h1b : (fb u).oneCell' = true)
    (hO : OJ e fa fb w0 w v os) (h1 : i < os.length)
    (hk : ∀ w', OJ e fa fb w0 w' v (os.set i u) → Kp (fun b => v.ownBlock = some b) w w' → w'.heap.size = w.heap.size → Ops none P n ds all k Φ l ρ w') : Ops none P n ds all k Φ (o2 :: l) ρ w := by
  subst hv
  have hown := hO.own
  rcases hown.2 with ⟨h2, _⟩ | ⟨g, cap, cur, h2, _, hg, hnc, hx2, hcs, ht'⟩
  · cases h2
  · cases h2
    obtain ⟨s1, g1⟩ := hown.stored (i * 2) (fa u)
    obtain ⟨s2, g2⟩ := s1.stored (i * 2 + 1) (fb u)
    rw [fl2_set] at s2
    obtain ⟨a1, a2⟩ := fl2_get (fa := fa) (fb := fb) os i h1
    have c1 := hown.cells (g := g) rfl _ _ a1
    have c2 := s1.cells (g := g) rfl (i * 2 + 1) (fb (os.getD i 0)) (by rw [List.getElem?_set_ne (by omega)]; exact a2)
    rw [add_lit, Nat.zero_add] at c1 c2 hx
    have f1 : w.frozen? ⟨g, i * 2, none⟩ = false := by simp [World.frozen?, hg]
    have f2 : (w.setCell ⟨g, i * 2, none⟩ (fa u)).frozen? ⟨g, i * 2 + 1, none⟩ = false := by rw [World.frozen?_setCell]; simp [World.frozen?, hg]
    have r1 := run_store (P := P) h1a c1 f1
    have r2 := run_store (P := P) h1b c2 f2
    have kk := (Kp.of_grown g1).trans (Kp.of_grown g2)
    have kS : Kp (fun b => (Value.slice (some ⟨g, 0, none⟩) os.length c).ownBlock = some b) w ((w.setCell ⟨g, i * 2, none⟩ (fa u)).setCell ⟨g, i * 2 + 1, none⟩ (fb u)) := kk.mono (fun b _ e => by simp at e; simp [Value.ownBlock, e])
    refine Ops.unit hg2 hd2 (fun a hr => ?_) (hk _ ⟨Below.put hO.bel kS (fun i hi => hO.ge i hi), by simpa using s2, hO.ge⟩ kS (by simp))
    simp only [execOp, ho2, hr.ev hx, hr.ev hz]
    simp [Instr.storeAt, Instr.sureAddr, storeVar, run_sizeOf hs', Value.cells, storeCells, add_lit, r1, r2]
/-- An element is written at the end of a region. -/
theorem OrdA.wrJ {fa fb : Int → Value} {w0 wr : World} {i1 d1 t t' e : Nat} {o1 o2 : Oper} {x y z : Operand} {v : Value} {u : Int} {i : Int} {os : List Int} {c1 : Bool}
    (h1 : all[i1]? = some o1) (ho : o1.op = .indexAddr t x y) (hd1 : o1.dst = some d1) (hg1 : gdB all ρ o1.guard = some c1) (hc1 : c1 = true) (h2 : all[s]? = some o2) (ho2 : o2.op = .store t' (.tmp d1) z) (hd2 : o2.dst = none) (hg2 : o2.guard = none)
    (ht : tyD P t = some (.slice e)) (hs : tyS P e = some 2) (hs' : tyS P t' = some 2) (hx : ev ρ x = some v) (hy : ev ρ y = some (.int .i64 i)) (hz : ∀ p, ev ((d1, .pointer p) :: ρ) z = some (.agg #[fa u, fb u])) (h1a : (fa u).oneCell' = true) (h1b : (fb u).oneCell' = true)
    (hO : OJ e fa fb w0 wr v os) (hF : ∀ w, F w → Below wr.heap.size wr w) (h0 : 0 ≤ i) (hi : i < os.length)
    (hk : ∀ w w' p, F w → OJ e fa fb w0 w' v (os.set i.toNat u) → Kp (fun b => v.ownBlock = some b) w w' → w'.heap.size = w.heap.size → Ord P n ds all k Φ 9999 (fun _ => True) π ((L.set i1 true).set s true) ((d1, p) :: ρ) w') : OrdA P n ds all k Φ s F ((i1, 1) :: (s, 0) :: π) L ρ := by
  obtain ⟨A, c, rfl⟩ := hO.sh
  have hA : ∃ a, A = some a := by
    cases A with
    | some a => exact ⟨a, rfl⟩
    | none =>
      rcases hO.own.2 with ⟨h2, h3⟩ | ⟨g, cap, cur, h2, _⟩
      · omega
      · cases h2
  obtain ⟨a, rfl⟩ := hA
  refine OrdA.pure h1 hd1 hg1 hc1 (fun w => EV.idx ho ht hs hx hy h0 hi) (OrdA.eff h2 fun w hw => ?_)
  exact Ops.stJ (i := i.toNat) ho2 hd2 hg2 hs' rfl (ev_top _ _ _) (hz _) h1a h1b (hO.below (hF w hw)) (by omega) (fun w' hO' k1 hsz => Ops.nil (W.endl (hk w w' _ hw hO' k1 hsz)))
theorem Ord.wrJ {fa fb : Int → Value} {w0 : World} {i1 i2 d1 t t' e : Nat} {o1 o2 : Oper} {x y z : Operand} {v : Value} {u : Int} {i : Int} {os : List Int} {c1 : Bool}
    (h1 : all[i1]? = some o1) (ho : o1.op = .indexAddr t x y) (hd1 : o1.dst = some d1) (hg1 : gdB all ρ o1.guard = some c1) (hc1 : c1 = true) (h2 : all[i2]? = some o2) (ho2 : o2.op = .store t' (.tmp d1) z) (hd2 : o2.dst = none) (hg2 : o2.guard = none)
    (ht : tyD P t = some (.slice e)) (hs : tyS P e = some 2) (hs' : tyS P t' = some 2) (hx : ev ρ x = some v) (hy : ev ρ y = some (.int .i64 i)) (hz : ∀ p, ev ((d1, .pointer p) :: ρ) z = some (.agg #[fa u, fb u])) (h1a : (fa u).oneCell' = true) (h1b : (fb u).oneCell' = true)
    (hO : OJ e fa fb w0 w v os) (h0 : 0 ≤ i) (hi : i < os.length) (hΦ : ∀ c ρ w, ¬ Φ (.panic c) ρ w)
    (hk : ∀ w' p, OJ e fa fb w0 w' v (os.set i.toNat u) → Kp (fun b => v.ownBlock = some b) w w' → w'.heap.size = w.heap.size → VW.Ord P n ds all k Φ 9999 (fun _ => True) π ((L.set i1 true).set i2 true) ((d1, p) :: ρ) w') : VW.Ord P n ds all k Φ 9999 (fun _ => True) ((i1, 1) :: (i2, 0) :: π) L ρ w := by
  obtain ⟨A, c, rfl⟩ := hO.sh
  have hA : ∃ a, A = some a := by
    cases A with
    | some a => exact ⟨a, rfl⟩
    | none =>
      rcases hO.own.2 with ⟨h2, h3⟩ | ⟨g, cap, cur, h2, _⟩
      · omega
      · cases h2
  obtain ⟨a, rfl⟩ := hA
  refine VW.Ord.pure h1 hd1 hg1 hc1 hΦ (fun w => EV.idx ho ht hs hx hy h0 hi) (VW.Ord.effT h2 ?_)
  exact Ops.stJ (i := i.toNat) ho2 hd2 hg2 hs' rfl (ev_top _ _ _) (hz _) h1a h1b hO (by omega) (fun w' hO' k1 hsz => Ops.nil (W.endl (hk w' _ hO' k1 hsz)))
end
end Go.Proofs.Ytehjmakiljhjdaa.VW
/- Segments that are permuted. -/
namespace Go.Proofs.Ytehjmakiljhjdaa.HP
/-- os' is os with the places from a to b permuted. -/
structure SegP (a b : Nat) (os os' : List Int) : Prop where
  len : os'.length = os.length
  out : ∀ p : Nat, p < a ∨ b ≤ p → os'.getD p 0 = os.getD p 0
  mem : ∀ p : Nat, a ≤ p → p < b → ∃ q : Nat, a ≤ q ∧ q < b ∧ os'.getD p 0 = os.getD q 0
  perm : os'.Perm os
theorem SegP.refl (a b : Nat) (os : List Int) : SegP a b os os := ⟨rfl, fun _ _ => rfl, fun p h1 h2 => ⟨p, h1, h2, rfl⟩, List.Perm.refl _⟩
theorem SegP.trans {a b : Nat} {x y z : List Int} (h : SegP a b x y) (k : SegP a b y z) : SegP a b x z :=
  ⟨k.len.trans h.len, fun p hp => (k.out p hp).trans (h.out p hp), fun p h1 h2 => by
    obtain ⟨q, q1, q2, e⟩ := k.mem p h1 h2
    obtain ⟨r, r1, r2, e'⟩ := h.mem q q1 q2
    exact ⟨r, r1, r2, e.trans e'⟩, k.perm.trans h.perm⟩
theorem SegP.wide {a b a' b' : Nat} {x y : List Int} (h : SegP a b x y) (ha : a' ≤ a) (hb : b ≤ b') : SegP a' b' x y :=
  ⟨h.len, fun p hp => h.out p (by omega), fun p h1 h2 => by
    by_cases e : a ≤ p ∧ p < b
    · obtain ⟨q, q1, q2, e'⟩ := h.mem p e.1 e.2
      exact ⟨q, by omega, by omega, e'⟩
    · exact ⟨p, h1, h2, h.out p (by omega)⟩, h.perm⟩
theorem getD_set' {os : List Int} {i p : Nat} {x : Int} (hi : i < os.length) : (os.set i x).getD p 0 = if p = i then x else os.getD p 0 := by
  by_cases e : p = i
  · subst e; rw [if_pos rfl]; simp [List.getD_eq_getElem?_getD, hi]
  · rw [if_neg e, List.getD_eq_getElem?_getD, List.getElem?_set_ne (fun h => e h.symm), ← List.getD_eq_getElem?_getD]
/-- Two places exchanged. -/
def swp (os : List Int) (i j : Nat) : List Int := (os.set i (os.getD j 0)).set j (os.getD i 0)
theorem swp_getD {os : List Int} {i j p : Nat} (hi : i < os.length) (hj : j < os.length) : (swp os i j).getD p 0 = if p = j then os.getD i 0 else if p = i then os.getD j 0 else os.getD p 0 := by
  unfold swp
  rw [getD_set' (by simpa using hj), getD_set' hi]
theorem swp_len (os : List Int) (i j : Nat) : (swp os i j).length = os.length := by simp [swp]
theorem set_perm : ∀ (os : List Int) (i : Nat) (x : Int), i < os.length → ((os.getD i 0) :: os.set i x).Perm (x :: os)
  | [], i, x, h => by simp at h
  | a :: r, 0, x, _ => by simpa using List.Perm.swap x a r
  | a :: r, i + 1, x, h => by
    have ih := set_perm r i x (by simpa using h)
    simp only [List.set_cons_succ, List.getD_cons_succ]
    exact (List.Perm.swap a _ _).trans ((ih.cons a).trans (List.Perm.swap x a r))
theorem swp_perm {os : List Int} {i j : Nat} (hi : i < os.length) (hj : j < os.length) : (swp os i j).Perm os := by
  have h1 := set_perm os i (os.getD j 0) hi
  have h2 := set_perm (os.set i (os.getD j 0)) j (os.getD i 0) (by simpa using hj)
  have e : (os.set i (os.getD j 0)).getD j 0 = os.getD j 0 := by
    rw [getD_set' hi]
    split
    · rfl
    · rfl
  rw [e] at h2
  have h3 : (os.getD j 0 :: swp os i j).Perm (os.getD j 0 :: os) := h2.trans h1
  exact List.Perm.cons_inv h3
theorem swp_seg {os : List Int} {a b i j : Nat} (hi : i < os.length) (hj : j < os.length) (hai : a ≤ i) (hib : i < b) (haj : a ≤ j) (hjb : j < b) : SegP a b os (swp os i j) :=
  ⟨swp_len _ _ _, fun p hp => by rw [swp_getD hi hj, if_neg (by omega), if_neg (by omega)], fun p h1 h2 => by
    rw [swp_getD hi hj]
    by_cases e : p = j
    · rw [if_pos e]; exact ⟨i, hai, hib, rfl⟩
    · rw [if_neg e]
      by_cases e2 : p = i
      · rw [if_pos e2]; exact ⟨j, haj, hjb, rfl⟩
      · rw [if_neg e2]; exact ⟨p, h1, h2, rfl⟩, swp_perm hi hj⟩
/-- K-sorted from a to b. -/
def SortK (K : Int → Int) (os : List Int) (a b : Nat) : Prop := ∀ p q : Nat, a ≤ p → p < q → q < b → K (os.getD p 0) < K (os.getD q 0)
theorem SortK.same {K : Int → Int} {x y : List Int} {a b : Nat} (h : SortK K x a b) (e : ∀ p : Nat, a ≤ p → p < b → y.getD p 0 = x.getD p 0) : SortK K y a b := fun p q h1 h2 h3 => by
  rw [e p h1 (by omega), e q (by omega) h3]; exact h p q h1 h2 h3
end Go.Proofs.Ytehjmakiljhjdaa.HP
