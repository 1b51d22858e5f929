/- KT1 KT2 KT3 KT4 KT5 KT6 KT7 KT8 KTA, merged. -/
import Derived.Test.YtbcbmmgfdobdiaaDoorKC
import Derived.Deep.DeepCutAuto
import Derived.Laws.LoneSync
import Derived.Defers
import Derived.StillTailTactics
import Derived.Test.YtbcbmmgfdobdiaaDoorRK2
import Derived.Test.YtbcbmmgfdobdiaaDoorCr2
/- A stream in memory; convstream.own, New. -/
namespace Go.Proofs.YtbcbmmgfdobdiaaDoor
open Go.RowKit

/-- the cells of a stream -/
def strV (rest : List UInt8) (done : Nat) (op : Bool) (k1 : Int) (A1 : Option Addr) (n1 c1 : Nat) (k2 : Int) (A2 : Option Addr) (n2 c2 : Nat) (p : Int) : Array Value :=
  #[.string ⟨rest.toArray⟩, .int .i64 (done : Int), .bool op, .int .i64 k1, .slice A1 n1 c1, .int .i64 k2, .slice A2 n2 c2, .int .i64 p]
theorem reads_head {w : World} {B n : Nat} {A : Option Addr} {l : List Int} (h : Reads w B 1 A n (l.map iv)) (hn : 0 < n) : ∃ b off, A = some ⟨b, off, none⟩ ∧ b < B ∧ l.length = n ∧ ∀ j, j < l.length → w.cell? ⟨b, off + j, none⟩ = some (.int .i64 (l.getD j 0)) := by
  obtain ⟨ad, rfl, hb, hc⟩ := h.2 hn
  have hl : l.length = n := by have := h.1; simpa using this
  have h0 := hc 0 (iv (l.getD 0 0)) (by simp [List.getD, List.getElem?_eq_getElem (show 0 < l.length by omega)])
  have e0 : ad.add 0 = ad := by simp [Addr.add]
  rw [e0] at h0
  obtain ⟨_, _, _, _, hs⟩ := World.shape?_of_cell? h0
  obtain ⟨b, off, sp⟩ := ad
  simp only at hs
  subst hs
  refine ⟨b, off, rfl, hb, hl, fun j hj => ?_⟩
  have h1 := hc j (iv (l.getD j 0)) (by simp [List.getD, List.getElem?_eq_getElem hj])
  have e1 : (⟨b, off, none⟩ : Addr).add j = ⟨b, off + j, none⟩ := by unfold Addr.add; split <;> simp_all
  rw [e1] at h1; exact h1
theorem clone_any (A : Option Addr) (n c : Nat) (codes : List Int) (w : World) (h : Reads w w.heap.size 1 A n (codes.map iv)) (hn : 0 < n) (hn2 : n ≤ 1000000) :
    Calls Tryd.prog 85 #[.slice A n c] w fun e w' => ∃ A' c', e = .returned (.slice A' n c') ∧ w'.ownsRow w.heap.size 3 1 (.slice A' n c') n (codes.map iv) ∧ Below w.heap.size w w' := by
  obtain ⟨b, off, rfl, _, hl, hc⟩ := reads_head h hn
  refine (Tryd.slices_Clone_int b off n c codes w (by omega) (by omega) hc).mono ?_
  rintro e w' ⟨v', rfl, ho, _, hb⟩
  rw [List.take_of_length_le (by omega)] at ho
  obtain ⟨A', c', rfl, _, hr⟩ := val_of_own (e := 3) (xs := codes.map iv) ho
  exact ⟨A', c', rfl, ho, hb⟩

/-- what own hands back: an encoding of the same coder, in memory of its own -/
def OwnR (b0 : Nat) (kind : Int) (codes : List Int) (e : Ending) (w' : World) : Prop := ∃ A' n' c' codes', e = .returned (.agg #[.int .i64 kind, .slice A' n' c']) ∧ Reads w' w'.heap.size 1 A' n' (codes'.map iv) ∧ CkE kind codes' 0 ∧ cdOf kind codes' = cdOf kind codes ∧ ∀ ad : Addr, A' = some ad → b0 ≤ ad.block
theorem OwnR.mk {b0 : Nat} {kind : Int} {codes : List Int} {w' : World} {A' : Option Addr} {n' c' : Nat} {codes' : List Int} (h1 : Reads w' w'.heap.size 1 A' n' (codes'.map iv)) (h2 : CkE kind codes' 0) (h3 : cdOf kind codes' = cdOf kind codes) (h4 : ∀ ad : Addr, A' = some ad → b0 ≤ ad.block) : OwnR b0 kind codes (.returned (.agg #[.int .i64 kind, .slice A' n' c'])) w' := ⟨A', n', c', codes', rfl, h1, h2, h3, h4⟩
set_option maxRecDepth 100000 in
set_option maxHeartbeats 4000000 in
theorem own_any (kind : Int) (A : Option Addr) (n c : Nat) (codes : List Int) (w : World) (h : Reads w w.heap.size 1 A n (codes.map iv)) (hC : CkE kind codes 0) :
    Calls Tryd.prog 60 #[.agg #[.int .i64 kind, .slice A n c]] w fun e w' => OwnR w.heap.size kind codes e w' ∧ Below w.heap.size w w' := by
  have hL : Below w.heap.size w ((w.alloc (.cells #[.int .i64 kind, .slice A n c] 26)).alloc (.cells #[.int .i64 0, .slice none 0 0] 26)) := ((Below.refl _ _).alloc (Nat.le_refl _) _).alloc (by simp) _
  have p1 : Blk ((w.alloc (.cells #[.int .i64 kind, .slice A n c] 26)).alloc (.cells #[.int .i64 0, .slice none 0 0] 26)) w.heap.size 26 #[.int .i64 kind, .slice A n c] := (Blk.new w _ _).alloc _
  have p2 : Blk ((w.alloc (.cells #[.int .i64 kind, .slice A n c] 26)).alloc (.cells #[.int .i64 0, .slice none 0 0] 26)) (w.heap.size + 1) 26 #[.int .i64 0, .slice none 0 0] := by
    have := Blk.new (w.alloc (.cells #[.int .i64 kind, .slice A n c] 26)) 26 #[.int .i64 0, .slice none 0 0]
    simpa using this
  have HL := Lib.hid hL
  have HR := Lib.hid (h.stay hL)
  have P1 := Lib.hid p1
  have P2 := Lib.hid p2
  have HC := Lib.hid hC
  have hl : codes.length = n := len_of h
  have g0 := p1.cell 0
  have g1 := p1.cell 1
  by_cases h4 : kind = 4
  · subst h4
    have hn : n = 256 := by
      rcases hC with ⟨a, _⟩ | ⟨_, ha⟩ | ⟨a, he⟩
      · omega
      · have := (CkC_zero.1 ha).1; omega
      · cases he
    subst hn
    clear h hC hL p1 p2 hl
    go_enter Tryd.func60, Tryd.ntmps60
    go_wp2_with fail
    clear g0 g1
    obtain ⟨W, hW⟩ : ∃ W, W = ((w.alloc (.cells #[.int .i64 4, .slice A 256 c] 26)).alloc (.cells #[.int .i64 0, .slice none 0 0] 26)) := ⟨_, rfl⟩
    rw [← hW] at HL HR P1 P2 ⊢
    clear hW
    have CR := Lib.hid (show Calls Tryd.prog 85 #[.slice A 256 c] W.drew fun e v => ∃ A' c', e = .returned (.slice A' 256 c') ∧ v.ownsRow W.heap.size 3 1 (.slice A' 256 c') 256 (codes.map iv) ∧ Below W.heap.size W v from
      (clone_any A 256 c codes W.drew HR.out.drew (by omega) (by omega)).mono fun e v ⟨A', c', h1, h2, h3⟩ => ⟨A', c', h1, h2, (Below.refl W.heap.size W).drew.trans h3⟩)
    have hlt := P2.out.lt
    have hN : Hid (w.heap.size + 1 ≤ w.heap.size + 1) := Lib.hid (Nat.le_refl _)
    have K := Lib.hid (show ∀ u, Below (w.heap.size + 1) W u → u.cell? ⟨w.heap.size, 0, none⟩ = some (.int .i64 4) ∧ u.cell? ⟨w.heap.size, 1, none⟩ = some (.slice A 256 c) from fun u hu => ⟨(P1.out.below hu (by omega)).cell 0, (P1.out.below hu (by omega)).cell 1⟩)
    have HbD := Lib.hid ((Below.refl (w.heap.size + 1) W).drew)
    go_region_held3 (fun u => u.cell? ⟨w.heap.size, 0, none⟩ = some (.int .i64 4) ∧ u.cell? ⟨w.heap.size, 1, none⟩ = some (.slice A 256 c)) (first | exact K.out _ HbD.out | exact K.out _ hbS | exact K.out _ ((hbS.setCell (p := ⟨w.heap.size + 1, 0, none⟩) hN.out _).setCell (p := ⟨w.heap.size + 1, 1, none⟩) hN.out _)) (first | (go_at_call 85; (with_reducible refine CR.out.mono ?_); rintro e w5 ⟨A', c', rfl, ho5, hb5⟩; have hbS : Below (w.heap.size + 1) W w5 := hb5.mono (Nat.le_of_lt hlt); have hF0 := P2.out.stay hb5; have z0 := hF0.cell 0; have z1 := hF0.cell 1; have f0 := hF0.frozen 0; have f1 := hF0.frozen 1))
    have hF2 := (hF0.set_ 0 (.int .i64 4)).set_ 1 (.slice A' 256 c')
    have d0 := hF2.cell 0
    have d1 := hF2.cell 1
    have bF := ((HL.out.trans (hb5.mono HL.out.size)).setCell (p := ⟨w.heap.size + 1, 0, none⟩) (by simp) (.int .i64 4)).setCell (p := ⟨w.heap.size + 1, 1, none⟩) (by simp) (.slice A' 256 c')
    have oF := ownsRow_setCell_below (ownsRow_setCell_below (a := ⟨w.heap.size + 1, 0, none⟩) ho5 (by simpa using hlt) (.int .i64 4)) (a := ⟨w.heap.size + 1, 1, none⟩) (by simpa using hlt) (.slice A' 256 c')
    obtain ⟨A2, c2, e2, _, hr2⟩ := val_of_own oF
    have hlow : ∀ ad : Addr, A' = some ad → w.heap.size ≤ ad.block := by
      obtain ⟨gg, cap, hv, hge, _⟩ := ho5.form (by decide)
      injection hv with hv
      intro ad had
      rw [hv] at had
      injection had with had
      subst had
      have := HL.out.size
      simp only; omega
    injection e2 with e2 _ e3
    subst e2 e3
    go_wp2
    exact bodyPost_ret (v := .agg #[.int .i64 4, .slice A' 256 c']) (by simp [results, Tryd.results60, go_sem] at d0 d1 ⊢; simp [d0, d1]) rfl ⟨OwnR.mk hr2 HC.out rfl hlow, bF⟩
  · have h4n : (kind != 4) = true := bne_iff_ne.2 h4
    have He := Lib.hid (show CkE kind [] 0 by
      rcases hC with ⟨a, e⟩ | ⟨a, _⟩ | ⟨_, e⟩
      · exact Or.inl ⟨a, e⟩
      · exact absurd a h4
      · cases e)
    have Hd := Lib.hid (show cdOf kind [] = cdOf kind codes by unfold cdOf; rw [if_neg h4, if_neg h4])
    have z0 := p2.cell 0
    have z1 := p2.cell 1
    have f0 := p2.frozen 0
    have f1 := p2.frozen 1
    clear h hC hL p1 p2 hl h4 P1 P2 HR HL
    go_enter Tryd.func60, Tryd.ntmps60
    go_wp2
    refine bodyPost_ret (v := .agg #[.int .i64 kind, .slice none 0 0]) (by simp [results, Tryd.results60, go_sem]) rfl ⟨OwnR.mk (codes' := []) Reads.none_ He.out Hd.out (fun _ h => by cases h), ((Below.refl _ _).alloc (Nat.le_refl _) _).alloc (by simp) _⟩

/-- a stream that New has made -/
def NewR (g0 : Nat) (k1 : Int) (q1 : List Int) (k2 : Int) (q2 : List Int) (p : Int) (e : Ending) (w' : World) : Prop := ∃ (g : Nat) (A1 : Option Addr) (n1 c1 : Nat) (q1' : List Int) (A2 : Option Addr) (n2 c2 : Nat) (q2' : List Int), e = .returned (.tuple #[.pointer (some ⟨g, 0, none⟩), .int .i64 0]) ∧ g0 ≤ g ∧
  Blk w' g 47 (strV [] 0 true k1 A1 n1 c1 k2 A2 n2 c2 p) ∧ Reads w' g 1 A1 n1 (q1'.map iv) ∧ Reads w' g 1 A2 n2 (q2'.map iv) ∧ CkE k1 q1' 0 ∧ CkE k2 q2' 0 ∧ cdOf k1 q1' = cdOf k1 q1 ∧ cdOf k2 q2' = cdOf k2 q2 ∧ (∀ ad : Addr, A1 = some ad → g0 ≤ ad.block) ∧ ∀ ad : Addr, A2 = some ad → g0 ≤ ad.block

set_option maxRecDepth 100000 in
set_option maxHeartbeats 4000000 in
theorem new_good (k1 : Int) (A1 : Option Addr) (n1 c1 : Nat) (q1 : List Int) (k2 : Int) (A2 : Option Addr) (n2 c2 : Nat) (q2 : List Int) (p : Int) (w : World) (h1 : Reads w w.heap.size 1 A1 n1 (q1.map iv)) (h2 : Reads w w.heap.size 1 A2 n2 (q2.map iv)) (hC1 : CkE k1 q1 0) (hC2 : CkE k2 q2 0) (hp1 : 1 ≤ p) (hp4 : p ≤ 4) :
    Calls Tryd.prog 38 #[.agg #[.int .i64 k1, .slice A1 n1 c1], .agg #[.int .i64 k2, .slice A2 n2 c2], .int .i64 p] w fun x w' => NewR w.heap.size k1 q1 k2 q2 p x w' ∧ Below w.heap.size w w' := by
  have hL : Below w.heap.size w ((w.alloc (.cells #[.int .i64 k1, .slice A1 n1 c1] 26)).alloc (.cells #[.int .i64 k2, .slice A2 n2 c2] 26)) := ((Below.refl _ _).alloc (Nat.le_refl _) _).alloc (by simp) _
  have p1 : Blk ((w.alloc (.cells #[.int .i64 k1, .slice A1 n1 c1] 26)).alloc (.cells #[.int .i64 k2, .slice A2 n2 c2] 26)) w.heap.size 26 #[.int .i64 k1, .slice A1 n1 c1] := (Blk.new w _ _).alloc _
  have p2 : Blk ((w.alloc (.cells #[.int .i64 k1, .slice A1 n1 c1] 26)).alloc (.cells #[.int .i64 k2, .slice A2 n2 c2] 26)) (w.heap.size + 1) 26 #[.int .i64 k2, .slice A2 n2 c2] := by
    have := Blk.new (w.alloc (.cells #[.int .i64 k1, .slice A1 n1 c1] 26)) 26 #[.int .i64 k2, .slice A2 n2 c2]
    simpa using this
  have HL := Lib.hid hL
  have H1 := Lib.hid (h1.stay hL)
  have H2 := Lib.hid (h2.stay hL)
  have P1 := Lib.hid p1
  have P2 := Lib.hid p2
  have HC1 := Lib.hid hC1
  have HC2 := Lib.hid hC2
  have g0 := p1.cell 0
  have g1 := p1.cell 1
  clear hL p1 p2 h1 h2 hC1 hC2
  go_enter Tryd.func38, Tryd.ntmps38
  go_wp2_with fail
  clear g0 g1
  obtain ⟨W, hW⟩ : ∃ W, W = ((w.alloc (.cells #[.int .i64 k1, .slice A1 n1 c1] 26)).alloc (.cells #[.int .i64 k2, .slice A2 n2 c2] 26)) := ⟨_, rfl⟩
  rw [← hW] at HL H1 H2 P1 P2 ⊢
  clear hW
  refine (checkE_any k1 A1 n1 c1 q1 0 W H1.out HC1.out).mono ?_
  rintro x w1 ⟨rfl, hb1⟩
  replace HL := Lib.hid (HL.out.trans (hb1.mono HL.out.size))
  replace H1 := Lib.hid (H1.out.stay hb1)
  replace H2 := Lib.hid (H2.out.stay hb1)
  replace P1 := Lib.hid (P1.out.stay hb1)
  replace P2 := Lib.hid (P2.out.stay hb1)
  clear hb1
  have g0 := P2.out.cell 0
  have g1 := P2.out.cell 1
  go_wp2_with fail
  clear g0 g1
  refine (checkE_any k2 A2 n2 c2 q2 0 w1 H2.out HC2.out).mono ?_
  rintro x w2 ⟨rfl, hb1⟩
  replace HL := Lib.hid (HL.out.trans (hb1.mono HL.out.size))
  replace H1 := Lib.hid (H1.out.stay hb1)
  replace H2 := Lib.hid (H2.out.stay hb1)
  replace P1 := Lib.hid (P1.out.stay hb1)
  replace P2 := Lib.hid (P2.out.stay hb1)
  clear hb1
  go_wp2_with fail
  have C1 := Lib.hid (show ∀ u, Below w2.heap.size w2 u → Calls Tryd.prog 60 #[.agg #[.int .i64 k1, .slice A1 n1 c1]] u fun e v => OwnR w2.heap.size k1 q1 e v ∧ Below u.heap.size u v from fun u hu => (own_any k1 A1 n1 c1 q1 u (H1.out.stay hu) HC1.out).mono fun e v ⟨⟨A', n', c', q', a1, a2, a3, a4, a5⟩, h2⟩ => ⟨⟨A', n', c', q', a1, a2, a3, a4, fun ad h => Nat.le_trans hu.size (a5 ad h)⟩, h2⟩)
  have C2 := Lib.hid (show ∀ u, Below w2.heap.size w2 u → Calls Tryd.prog 60 #[.agg #[.int .i64 k2, .slice A2 n2 c2]] u fun e v => OwnR w2.heap.size k2 q2 e v ∧ Below u.heap.size u v from fun u hu => (own_any k2 A2 n2 c2 q2 u (H2.out.stay hu) HC2.out).mono fun e v ⟨⟨A', n', c', q', a1, a2, a3, a4, a5⟩, h2⟩ => ⟨⟨A', n', c', q', a1, a2, a3, a4, fun ad h => Nat.le_trans hu.size (a5 ad h)⟩, h2⟩)
  have K := Lib.hid (show ∀ u, Below w2.heap.size w2 u → u.cell? ⟨w.heap.size, 0, none⟩ = some (.int .i64 k1) ∧ u.cell? ⟨w.heap.size, 1, none⟩ = some (.slice A1 n1 c1) ∧ u.cell? ⟨w.heap.size + 1, 0, none⟩ = some (.int .i64 k2) ∧ u.cell? ⟨w.heap.size + 1, 1, none⟩ = some (.slice A2 n2 c2) from fun u hu => ⟨(P1.out.stay hu).cell 0, (P1.out.stay hu).cell 1, (P2.out.stay hu).cell 0, (P2.out.stay hu).cell 1⟩)
  have hbS : Below w2.heap.size w2 w2.drew := (Below.refl w2.heap.size w2).drew
  go_region_held3 (fun u => u.cell? ⟨w.heap.size, 0, none⟩ = some (.int .i64 k1) ∧ u.cell? ⟨w.heap.size, 1, none⟩ = some (.slice A1 n1 c1) ∧ u.cell? ⟨w.heap.size + 1, 0, none⟩ = some (.int .i64 k2) ∧ u.cell? ⟨w.heap.size + 1, 1, none⟩ = some (.slice A2 n2 c2)) (first | exact K.out _ hbS | exact K.out _ (hbS.alloc hbS.size _)) (first | (go_at_call 60; (first | ((with_reducible refine (C1.out _ hbS).mono ?_); rintro e w3 ⟨⟨B1, m1, d1, r1, rfl, hr1, hD1, hE1, hX1⟩, hb3⟩) | ((with_reducible refine (C2.out _ hbS).mono ?_); rintro e w3 ⟨⟨B2, m2, d2, r2, rfl, hr2, hD2, hE2, hX2⟩, hb3⟩)); have hbU := hbS.trans (hb3.mono hbS.size); clear hbS; have hbS := hbU; clear hbU))
  have hrA := (hr1.stay hb3).alloc (Nat.le_refl _) (.cells #[.string ⟨#[]⟩, .int .i64 0, .bool true, .int .i64 k1, .slice B1 m1 d1, .int .i64 k2, .slice B2 m2 d2, .int .i64 p] 47)
  have hrB := hr2.alloc (Nat.le_refl _) (.cells #[.string ⟨#[]⟩, .int .i64 0, .bool true, .int .i64 k1, .slice B1 m1 d1, .int .i64 k2, .slice B2 m2 d2, .int .i64 p] 47)
  have hbT := HL.out.trans (hbS.mono HL.out.size)
  have hle := hbT.size
  have bF := hbT.alloc hle (.cells #[.string ⟨#[]⟩, .int .i64 0, .bool true, .int .i64 k1, .slice B1 m1 d1, .int .i64 k2, .slice B2 m2 d2, .int .i64 p] 47)
  have HR := Lib.hid (show NewR w.heap.size k1 q1 k2 q2 p (.returned (.tuple #[.pointer (some ⟨w3.heap.size, 0, none⟩), .int .i64 0])) (w3.alloc (.cells #[.string ⟨#[]⟩, .int .i64 0, .bool true, .int .i64 k1, .slice B1 m1 d1, .int .i64 k2, .slice B2 m2 d2, .int .i64 p] 47)) from ⟨w3.heap.size, B1, m1, d1, r1, B2, m2, d2, r2, rfl, hle, Blk.new _ _ _, hrA, hrB, hD1, hD2, hE1, hE2, fun ad h => Nat.le_trans HL.out.size (hX1 ad h), fun ad h => Nat.le_trans HL.out.size (hX2 ad h)⟩)
  have BF := Lib.hid bF
  clear hrA hrB hr1 hr2 hbS hbT hb3 bF
  go_wp2
  exact bodyPost_ret (v := .tuple #[.pointer (some ⟨w3.heap.size, 0, none⟩), .int .i64 0]) (by simp [results, Tryd.results38, go_sem]) rfl ⟨HR.out, BF.out⟩

def newE (e1 e2 : Int) : Int := if e1 = 0 ∧ e2 = 0 then 8 else 11
set_option maxRecDepth 100000 in
set_option maxHeartbeats 4000000 in
theorem new_bad (k1 : Int) (A1 : Option Addr) (n1 c1 : Nat) (q1 : List Int) (k2 : Int) (A2 : Option Addr) (n2 c2 : Nat) (q2 : List Int) (p e1 e2 : Int) (w : World) (h1 : Reads w w.heap.size 1 A1 n1 (q1.map iv)) (h2 : Reads w w.heap.size 1 A2 n2 (q2.map iv)) (hC1 : CkE k1 q1 e1) (hC2 : CkE k2 q2 e2) (hbad : ¬ (e1 = 0 ∧ e2 = 0 ∧ 1 ≤ p ∧ p ≤ 4)) :
    Calls Tryd.prog 38 #[.agg #[.int .i64 k1, .slice A1 n1 c1], .agg #[.int .i64 k2, .slice A2 n2 c2], .int .i64 p] w fun x w' => x = .returned (.tuple #[.pointer none, .int .i64 (newE e1 e2)]) ∧ Below w.heap.size w w' := by
  have hL : Below w.heap.size w ((w.alloc (.cells #[.int .i64 k1, .slice A1 n1 c1] 26)).alloc (.cells #[.int .i64 k2, .slice A2 n2 c2] 26)) := ((Below.refl _ _).alloc (Nat.le_refl _) _).alloc (by simp) _
  have p1 : Blk ((w.alloc (.cells #[.int .i64 k1, .slice A1 n1 c1] 26)).alloc (.cells #[.int .i64 k2, .slice A2 n2 c2] 26)) w.heap.size 26 #[.int .i64 k1, .slice A1 n1 c1] := (Blk.new w _ _).alloc _
  have p2 : Blk ((w.alloc (.cells #[.int .i64 k1, .slice A1 n1 c1] 26)).alloc (.cells #[.int .i64 k2, .slice A2 n2 c2] 26)) (w.heap.size + 1) 26 #[.int .i64 k2, .slice A2 n2 c2] := by
    have := Blk.new (w.alloc (.cells #[.int .i64 k1, .slice A1 n1 c1] 26)) 26 #[.int .i64 k2, .slice A2 n2 c2]
    simpa using this
  have HL := Lib.hid hL
  have H1 := Lib.hid (h1.stay hL)
  have H2 := Lib.hid (h2.stay hL)
  have P2 := Lib.hid p2
  have HC1 := Lib.hid hC1
  have HC2 := Lib.hid hC2
  have Hbad := Lib.hid hbad
  have g0 := p1.cell 0
  have g1 := p1.cell 1
  clear hL p1 p2 h1 h2 hC1 hC2 hbad
  go_enter Tryd.func38, Tryd.ntmps38
  go_wp2_with fail
  clear g0 g1
  obtain ⟨W, hW⟩ : ∃ W, W = ((w.alloc (.cells #[.int .i64 k1, .slice A1 n1 c1] 26)).alloc (.cells #[.int .i64 k2, .slice A2 n2 c2] 26)) := ⟨_, rfl⟩
  rw [← hW] at HL H1 H2 P2 ⊢
  clear hW
  refine (checkE_any k1 A1 n1 c1 q1 e1 W H1.out HC1.out).mono ?_
  rintro x w1 ⟨rfl, hb1⟩
  replace HL := Lib.hid (HL.out.trans (hb1.mono HL.out.size))
  replace H2 := Lib.hid (H2.out.stay hb1)
  replace P2 := Lib.hid (P2.out.stay hb1)
  clear hb1
  by_cases d1 : e1 = 0
  rotate_left
  · have d1n : (e1 != 0) = true := bne_iff_ne.2 d1
    have HE := Lib.hid (show newE e1 e2 = 11 by unfold newE; rw [if_neg (by omega)])
    clear d1
    go_wp2
    exact bodyPost_ret (v := .tuple #[.pointer none, .int .i64 11]) (by simp [results, Tryd.results38, go_sem]) rfl ⟨by rw [HE.out], HL.out⟩
  subst d1
  have g0 := P2.out.cell 0
  have g1 := P2.out.cell 1
  go_wp2_with fail
  clear g0 g1
  refine (checkE_any k2 A2 n2 c2 q2 e2 w1 H2.out HC2.out).mono ?_
  rintro x w2 ⟨rfl, hb1⟩
  replace HL := Lib.hid (HL.out.trans (hb1.mono HL.out.size))
  clear hb1
  by_cases d2 : e2 = 0
  rotate_left
  · have d2n : (e2 != 0) = true := bne_iff_ne.2 d2
    have HE := Lib.hid (show newE 0 e2 = 11 by unfold newE; rw [if_neg (by omega)])
    clear d2
    go_wp2
    exact bodyPost_ret (v := .tuple #[.pointer none, .int .i64 11]) (by simp [results, Tryd.results38, go_sem]) rfl ⟨by rw [HE.out], HL.out⟩
  subst d2
  have HE := Lib.hid (show newE 0 0 = 8 by decide)
  have hpp : p < 1 ∨ (¬ p < 1 ∧ 4 < p) := by
    rcases Int.lt_or_le p 1 with h | h
    · exact Or.inl h
    · rcases Int.lt_or_le 4 p with h2 | h2
      · exact Or.inr ⟨by omega, h2⟩
      · exact absurd ⟨trivial, rfl, h, h2⟩ Hbad.out
  rcases hpp with h | ⟨h, h'⟩
  all_goals
    go_wp2
    exact bodyPost_ret (v := .tuple #[.pointer none, .int .i64 8]) (by simp [results, Tryd.results38, go_sem]) rfl ⟨by rw [HE.out], HL.out⟩
end Go.Proofs.YtbcbmmgfdobdiaaDoor
/- A stream's buffer; closed, shut, Pending. -/
namespace Go.Proofs.YtbcbmmgfdobdiaaDoor
open Go.RowKit

/-- only block g has changed, and memory was made -/
theorem Dig.grownB {w w' : World} {g : Nat} (h : Dig w) (hg : w.grownBy w' (some g)) (hl : 0 < g) : Dig w' := fun j hj => (World.cell?_of_block (hg.block _ h.lt (by intro e; injection e with e; simp only at e; omega))).trans (h j hj)
theorem Blk.grownS {w w' : World} {g g' : Nat} {t : TypeId} {cs : Array Value} (h : Blk w g' t cs) (hg : w.grownBy w' (some g)) (hne : g' ≠ g) : Blk w' g' t cs := h.grown hg (by intro e; injection e with e; exact hne e)
theorem Reads.grownS {w w' : World} {g n : Nat} {A : Option Addr} {xs : List Value} (h : Reads w g 1 A n xs) (hg : w.grownBy w' (some g)) (hl : g ≤ w.heap.size) : Reads w' g 1 A n xs := h.grown hg hl (fun g' e => by injection e with e; omega)
theorem grownS_refl (w : World) (g : Nat) : w.grownBy w (some g) := ⟨rfl, rfl, rfl, Nat.le_refl _, fun _ _ _ => rfl⟩
theorem ext_head' (s : List UInt8) (k : Nat) : (⟨s.toArray⟩ : ByteArray).extract 0 k = ⟨(s.take k).toArray⟩ := by apply ByteArray.ext; simp
theorem strV_open (rest : List UInt8) (done : Nat) (k1 : Int) (A1 : Option Addr) (n1 c1 : Nat) (k2 : Int) (A2 : Option Addr) (n2 c2 : Nat) (p : Int) (b : Bool) : (strV rest done true k1 A1 n1 c1 k2 A2 n2 c2 p).setIfInBounds 2 (.bool b) = strV rest done b k1 A1 n1 c1 k2 A2 n2 c2 p := rfl

set_option maxRecDepth 100000 in
set_option maxHeartbeats 4000000 in
theorem add_any (g : Nat) (rest b : List UInt8) (w : World) (hc : w.cell? ⟨g, 0, none⟩ = some (.string ⟨rest.toArray⟩)) (hf : w.frozen? ⟨g, 0, none⟩ = false) (hl : rest.length + b.length ≤ 1000000) :
    Calls Tryd.prog 40 #[.pointer (some ⟨g, 0, none⟩), .string ⟨b.toArray⟩] w fun e w' => e = .returned (.tuple #[]) ∧ w' = w.setCell ⟨g, 0, none⟩ (.string ⟨(rest ++ b).toArray⟩) := by
  have hcat : (⟨rest.toArray⟩ : ByteArray) ++ ⟨b.toArray⟩ = ⟨(rest ++ b).toArray⟩ := ByteArray.mk_append_mk rest b
  go_enter Tryd.func40, Tryd.ntmps40
  go_wp2
  go_end0
  exact ⟨rfl, rfl⟩

set_option maxRecDepth 100000 in
set_option maxHeartbeats 4000000 in
theorem take_any (g n done : Nat) (rest : List UInt8) (w : World) (hc0 : w.cell? ⟨g, 0, none⟩ = some (.string ⟨rest.toArray⟩)) (hf0 : w.frozen? ⟨g, 0, none⟩ = false) (hc1 : w.cell? ⟨g, 1, none⟩ = some (.int .i64 (done : Int))) (hf1 : w.frozen? ⟨g, 1, none⟩ = false) (hn : n ≤ rest.length) (hl : rest.length + done ≤ 1000000) :
    Calls Tryd.prog 61 #[.pointer (some ⟨g, 0, none⟩), .int .i64 (n : Int)] w fun e w' => e = .returned (.string ⟨(rest.take n).toArray⟩) ∧ w' = (w.setCell ⟨g, 0, none⟩ (.string ⟨(rest.drop n).toArray⟩)).setCell ⟨g, 1, none⟩ (.int .i64 ((done + n : Nat) : Int)) := by
  have hx1 := ext_head' rest n
  have hx2 := ext_drop rest n
  have hn' : (n : Int) ≤ (rest.length : Int) := by omega
  have hd1 : (w.setCell ⟨g, 0, none⟩ (.string ⟨(rest.drop n).toArray⟩)).cell? ⟨g, 1, none⟩ = some (.int .i64 (done : Int)) := by rw [World.cell?_setCell_other _ _ _ _ (by simp)]; exact hc1
  have hz1 : (w.setCell ⟨g, 0, none⟩ (.string ⟨(rest.drop n).toArray⟩)).frozen? ⟨g, 1, none⟩ = false := by first | (simp [go_sem, hf1]; done) | (rw [World.frozen?_setCell]; exact hf1)
  generalize rest.take n = X at hx1 ⊢
  generalize rest.drop n = Y at hx2 hd1 hz1 ⊢
  go_enter Tryd.func61, Tryd.ntmps61
  go_wp2
  go_ret
  exact ⟨rfl, rfl⟩

set_option maxRecDepth 100000 in
set_option maxHeartbeats 4000000 in
theorem closed_nil (w : World) : Calls Tryd.prog 39 #[.pointer none] w fun e w' => e = .returned (.bool true) ∧ w' = w := by
  go_enter Tryd.func39, Tryd.ntmps39
  go_wp2
  go_ret
  exact ⟨rfl, rfl⟩
set_option maxRecDepth 100000 in
set_option maxHeartbeats 4000000 in
theorem closed_any (g : Nat) (b : Bool) (w : World) (hc : w.cell? ⟨g, 2, none⟩ = some (.bool b)) : Calls Tryd.prog 39 #[.pointer (some ⟨g, 0, none⟩)] w fun e w' => e = .returned (.bool (!b)) ∧ w' = w := by
  go_enter Tryd.func39, Tryd.ntmps39
  go_wp2
  go_ret
  exact ⟨rfl, rfl⟩
set_option maxRecDepth 100000 in
set_option maxHeartbeats 4000000 in
theorem pending_nil (w : World) : Calls Tryd.prog 21 #[.pointer none] w fun e w' => e = .returned (.string ⟨([] : List UInt8).toArray⟩) ∧ w' = w := by
  go_enter Tryd.func21, Tryd.ntmps21
  go_wp2_with fail
  refine (closed_nil w).mono ?_
  rintro e w' ⟨rfl, rfl⟩
  go_wp2
  go_ret
  exact ⟨rfl, rfl⟩
set_option maxRecDepth 100000 in
set_option maxHeartbeats 4000000 in
theorem pending_closed (g : Nat) (w : World) (hc : w.cell? ⟨g, 2, none⟩ = some (.bool false)) : Calls Tryd.prog 21 #[.pointer (some ⟨g, 0, none⟩)] w fun e w' => e = .returned (.string ⟨([] : List UInt8).toArray⟩) ∧ w' = w := by
  go_enter Tryd.func21, Tryd.ntmps21
  go_wp2_with fail
  refine (closed_any g false w hc).mono ?_
  rintro e w' ⟨rfl, rfl⟩
  go_wp2
  go_ret
  exact ⟨rfl, rfl⟩
set_option maxRecDepth 100000 in
set_option maxHeartbeats 4000000 in
theorem pending_open (g : Nat) (rest : List UInt8) (w : World) (hc : w.cell? ⟨g, 2, none⟩ = some (.bool true)) (h0 : w.cell? ⟨g, 0, none⟩ = some (.string ⟨rest.toArray⟩)) : Calls Tryd.prog 21 #[.pointer (some ⟨g, 0, none⟩)] w fun e w' => e = .returned (.string ⟨rest.toArray⟩) ∧ w' = w := by
  go_enter Tryd.func21, Tryd.ntmps21
  go_wp2_with fail
  refine (closed_any g true w hc).mono ?_
  rintro e w' ⟨rfl, rfl⟩
  go_wp2
  go_ret
  exact ⟨rfl, rfl⟩

theorem strV_set2 (rest : List UInt8) (done : Nat) (op : Bool) (k1 : Int) (A1 : Option Addr) (n1 c1 : Nat) (k2 : Int) (A2 : Option Addr) (n2 c2 : Nat) (p : Int) (b : Bool) : (strV rest done op k1 A1 n1 c1 k2 A2 n2 c2 p).setIfInBounds 2 (.bool b) = strV rest done b k1 A1 n1 c1 k2 A2 n2 c2 p := rfl
theorem strV_set01 (rest r2 : List UInt8) (done d2 : Nat) (op : Bool) (k1 : Int) (A1 : Option Addr) (n1 c1 : Nat) (k2 : Int) (A2 : Option Addr) (n2 c2 : Nat) (p : Int) : ((strV rest done op k1 A1 n1 c1 k2 A2 n2 c2 p).setIfInBounds 0 (.string ⟨r2.toArray⟩)).setIfInBounds 1 (.int .i64 (d2 : Int)) = strV r2 d2 op k1 A1 n1 c1 k2 A2 n2 c2 p := rfl
theorem strV_set0 (rest r2 : List UInt8) (done : Nat) (op : Bool) (k1 : Int) (A1 : Option Addr) (n1 c1 : Nat) (k2 : Int) (A2 : Option Addr) (n2 c2 : Nat) (p : Int) : (strV rest done op k1 A1 n1 c1 k2 A2 n2 c2 p).setIfInBounds 0 (.string ⟨r2.toArray⟩) = strV r2 done op k1 A1 n1 c1 k2 A2 n2 c2 p := rfl

set_option maxRecDepth 100000 in
set_option maxHeartbeats 4000000 in
theorem shut_any (g done : Nat) (rest : List UInt8) (op : Bool) (k1 : Int) (A1 : Option Addr) (n1 c1 : Nat) (k2 : Int) (A2 : Option Addr) (n2 c2 : Nat) (p : Int) (u : FrameMode) (w : World) (h : Blk w g 47 (strV rest done op k1 A1 n1 c1 k2 A2 n2 c2 p)) (hl : rest.length + done ≤ 1000000) :
    CallsD Tryd.prog 43 #[.pointer (some ⟨g, 0, none⟩)] u w fun e u' w' => u' = u ∧ (e = .returned (.tuple #[]) ∧ Blk w' g 47 (strV [] (done + rest.length) false k1 A1 n1 c1 k2 A2 n2 c2 p) ∧ w.grownBy w' (some g)) := by
  have c2 : w.cell? ⟨g, 2, none⟩ = some (.bool op) := h.cell 2
  have f2 := h.frozen 2
  have h2 := h.set_ 2 (.bool false)
  rw [strV_set2] at h2
  have hg2 : w.grownBy (w.setCell ⟨g, 2, none⟩ (.bool false)) (some g) := grown_setCell (grownS_refl w g) (.inl rfl) _
  have H2 := Lib.hid h2
  have G2 := Lib.hid hg2
  clear h h2 hg2
  go_enter_d Tryd.func43, Tryd.ntmps43
  go_wp2_with fail
  clear c2 f2
  generalize w.setCell ⟨g, 2, none⟩ (.bool false) = W at H2 G2 ⊢
  have c0 : W.cell? ⟨g, 0, none⟩ = some (.string ⟨rest.toArray⟩) := H2.out.cell 0
  have h3 : Blk W.drew g 47 (strV rest done false k1 A1 n1 c1 k2 A2 n2 c2 p) := H2.out
  have g3 : w.grownBy W.drew (some g) := ⟨G2.out.os, G2.out.tape, G2.out.output, G2.out.size, G2.out.block⟩
  go_still_tail 9, (by kernel_rfl)
  change wpList _ _ _ _ _ W.drew
  clear c0
  generalize W.drew = V at h3 g3 ⊢
  have c0 : V.cell? ⟨g, 0, none⟩ = some (.string ⟨rest.toArray⟩) := h3.cell 0
  have H3 := Lib.hid h3
  have G3 := Lib.hid g3
  clear h3 g3 H2 G2
  go_wp2_with fail
  refine (take_any g rest.length done rest V (H3.out.cell 0) (H3.out.frozen 0) (H3.out.cell 1) (H3.out.frozen 1) (Nat.le_refl _) hl).mono ?_
  rintro e w5 ⟨rfl, rfl⟩
  have hB := (H3.out.set_ 0 (.string ⟨(rest.drop rest.length).toArray⟩)).set_ 1 (.int .i64 ((done + rest.length : Nat) : Int))
  rw [strV_set01, List.drop_length] at hB
  have hG := grown_setCell (p := ⟨g, 1, none⟩) (grown_setCell (p := ⟨g, 0, none⟩) G3.out (.inl rfl) (.string ⟨(rest.drop rest.length).toArray⟩)) (.inl rfl) (.int .i64 ((done + rest.length : Nat) : Int))
  rw [List.drop_length] at hG ⊢
  have HB := Lib.hid hB
  have HG := Lib.hid hG
  clear hB hG c0
  go_wp2
  go_end0
  exact ⟨rfl, HB.out, HG.out⟩
end Go.Proofs.YtbcbmmgfdobdiaaDoor
/- convstream.unfinished, certain. -/
namespace Go.Proofs.YtbcbmmgfdobdiaaDoor
open Go.RowKit


set_option maxRecDepth 100000 in
set_option maxHeartbeats 4000000 in
theorem unf_1 (s : List UInt8) (w : World) (hs : 0 < s.length) (hsl : s.length ≤ 1000000) (hd : Dig w) :
    Calls Tryd.prog 62 #[.int .i64 1, .string ⟨s.toArray⟩] w fun e w' => e = .returned (.bool (unfK .u8 s)) ∧ Below w.heap.size w w' := by
  obtain ⟨x, hx, hx2, hx256⟩ := byte8_at (s := s) (k := 0) hs
  have Hd := Lib.hid hd
  have Hx2 := Lib.hid (show (s.getD 0 0).toNat = x by rw [← hx2]; simp [List.getD, hs])
  clear hd hx2
  obtain ⟨⟨z, m, b⟩, hr⟩ : ∃ r, step8 s = r := ⟨_, rfl⟩
  have Hu := Lib.hid (show unfK .u8 s = (decide (m = s.length) && (decide (194 ≤ x) && decide (x ≤ 244))) by show (decide ((step8 s).2.1 = s.length) && (decide (194 ≤ (s.getD 0 0).toNat) && decide ((s.getD 0 0).toNat ≤ 244))) = _; rw [hr, Hx2.out])
  have Hr := Lib.hid (show stepK (cdOf 1 []) s = (z, m, b) from hr)
  clear hr Hx2
  go_enter Tryd.func62, Tryd.ntmps62
  go_wp2_with fail
  refine (cstep_good 1 none 0 0 [] s w Reads.none_ (Or.inl ⟨by decide, rfl⟩) hsl Hd.out).mono ?_
  rintro e w1 ⟨rfl, hb1⟩
  rw [Hr.out]
  simp only [trip64]
  by_cases h1 : (m : Int) = (s.length : Int)
  · have h1b : ((m : Int) == (s.length : Int)) = true := beq_iff_eq.2 h1
    by_cases h2 : (194 : Int) ≤ (x : Int)
    · by_cases h3 : (x : Int) ≤ 244
      · have He := Lib.hid (show unfK .u8 s = true by rw [Hu.out]; simp; omega)
        clear h1
        go_wp2
        go_ret
        exact ⟨by rw [He.out]; rfl, hb1⟩
      · have He := Lib.hid (show unfK .u8 s = false by rw [Hu.out]; simp; omega)
        clear h1
        go_wp2
        go_ret
        exact ⟨by rw [He.out]; rfl, hb1⟩
    · have He := Lib.hid (show unfK .u8 s = false by rw [Hu.out]; simp; omega)
      clear h1
      go_wp2
      go_ret
      exact ⟨by rw [He.out]; rfl, hb1⟩
  · have h1b : ((m : Int) == (s.length : Int)) = false := by simp; omega
    have He := Lib.hid (show unfK .u8 s = false by rw [Hu.out]; simp; omega)
    clear h1
    go_wp2
    go_ret
    exact ⟨by rw [He.out]; rfl, hb1⟩

set_option maxRecDepth 100000 in
set_option maxHeartbeats 4000000 in
theorem unf_21 (a : UInt8) (w : World) : Calls Tryd.prog 62 #[.int .i64 2, .string ⟨[a].toArray⟩] w fun e w' => e = .returned (.bool (unfK (.u16 true) [a])) ∧ Below w.heap.size w w' := by
  have x0 : ((⟨#[a]⟩ : ByteArray)[0]'(show 0 < 1 by decide)).toNat = a.toNat := rfl
  have He := Lib.hid (show unfK (.u16 true) [a] = true by simp [unfK]; try omega)
  go_enter Tryd.func62, Tryd.ntmps62
  go_wp2
  go_ret
  exact ⟨by rw [He.out]; rfl, Below.refl _ _⟩
set_option maxRecDepth 100000 in
set_option maxHeartbeats 4000000 in
theorem unf_22 (a b : UInt8) (w : World) : Calls Tryd.prog 62 #[.int .i64 2, .string ⟨[a, b].toArray⟩] w fun e w' => e = .returned (.bool (unfK (.u16 true) [a, b])) ∧ Below w.heap.size w w' := by
  by_cases h2 : (216 : Int) ≤ (a.toNat : Int)
  · by_cases h1 : (a.toNat : Int) ≤ 219
    · have x0 : ((⟨#[a, b]⟩ : ByteArray)[0]'(show 0 < 2 by decide)).toNat = a.toNat := rfl
      have x1 : ((⟨#[a, b]⟩ : ByteArray)[1]'(show 1 < 2 by decide)).toNat = b.toNat := rfl
      have He := Lib.hid (show unfK (.u16 true) [a, b] = true by simp [unfK]; try omega)
      go_enter Tryd.func62, Tryd.ntmps62
      go_wp2
      go_ret
      exact ⟨by rw [He.out]; rfl, Below.refl _ _⟩
    · have x0 : ((⟨#[a, b]⟩ : ByteArray)[0]'(show 0 < 2 by decide)).toNat = a.toNat := rfl
      have x1 : ((⟨#[a, b]⟩ : ByteArray)[1]'(show 1 < 2 by decide)).toNat = b.toNat := rfl
      have He := Lib.hid (show unfK (.u16 true) [a, b] = false by simp [unfK]; try omega)
      go_enter Tryd.func62, Tryd.ntmps62
      go_wp2
      go_ret
      exact ⟨by rw [He.out]; rfl, Below.refl _ _⟩
  · have x0 : ((⟨#[a, b]⟩ : ByteArray)[0]'(show 0 < 2 by decide)).toNat = a.toNat := rfl
    have x1 : ((⟨#[a, b]⟩ : ByteArray)[1]'(show 1 < 2 by decide)).toNat = b.toNat := rfl
    have He := Lib.hid (show unfK (.u16 true) [a, b] = false by simp [unfK]; try omega)
    go_enter Tryd.func62, Tryd.ntmps62
    go_wp2
    go_ret
    exact ⟨by rw [He.out]; rfl, Below.refl _ _⟩
set_option maxRecDepth 100000 in
set_option maxHeartbeats 4000000 in
theorem unf_23 (a b c : UInt8) (w : World) : Calls Tryd.prog 62 #[.int .i64 2, .string ⟨[a, b, c].toArray⟩] w fun e w' => e = .returned (.bool (unfK (.u16 true) [a, b, c])) ∧ Below w.heap.size w w' := by
  by_cases h4 : (216 : Int) ≤ (a.toNat : Int)
  · by_cases h3 : (a.toNat : Int) ≤ 219
    · by_cases h2 : (220 : Int) ≤ (c.toNat : Int)
      · by_cases h1 : (c.toNat : Int) ≤ 223
        · have x0 : ((⟨#[a, b, c]⟩ : ByteArray)[0]'(show 0 < 3 by decide)).toNat = a.toNat := rfl
          have x1 : ((⟨#[a, b, c]⟩ : ByteArray)[1]'(show 1 < 3 by decide)).toNat = b.toNat := rfl
          have x2 : ((⟨#[a, b, c]⟩ : ByteArray)[2]'(show 2 < 3 by decide)).toNat = c.toNat := rfl
          have He := Lib.hid (show unfK (.u16 true) [a, b, c] = true by simp [unfK]; try omega)
          go_enter Tryd.func62, Tryd.ntmps62
          go_wp2
          go_ret
          exact ⟨by rw [He.out]; rfl, Below.refl _ _⟩
        · have x0 : ((⟨#[a, b, c]⟩ : ByteArray)[0]'(show 0 < 3 by decide)).toNat = a.toNat := rfl
          have x1 : ((⟨#[a, b, c]⟩ : ByteArray)[1]'(show 1 < 3 by decide)).toNat = b.toNat := rfl
          have x2 : ((⟨#[a, b, c]⟩ : ByteArray)[2]'(show 2 < 3 by decide)).toNat = c.toNat := rfl
          have He := Lib.hid (show unfK (.u16 true) [a, b, c] = false by simp [unfK]; try omega)
          go_enter Tryd.func62, Tryd.ntmps62
          go_wp2
          go_ret
          exact ⟨by rw [He.out]; rfl, Below.refl _ _⟩
      · have x0 : ((⟨#[a, b, c]⟩ : ByteArray)[0]'(show 0 < 3 by decide)).toNat = a.toNat := rfl
        have x1 : ((⟨#[a, b, c]⟩ : ByteArray)[1]'(show 1 < 3 by decide)).toNat = b.toNat := rfl
        have x2 : ((⟨#[a, b, c]⟩ : ByteArray)[2]'(show 2 < 3 by decide)).toNat = c.toNat := rfl
        have He := Lib.hid (show unfK (.u16 true) [a, b, c] = false by simp [unfK]; try omega)
        go_enter Tryd.func62, Tryd.ntmps62
        go_wp2
        go_ret
        exact ⟨by rw [He.out]; rfl, Below.refl _ _⟩
    · have x0 : ((⟨#[a, b, c]⟩ : ByteArray)[0]'(show 0 < 3 by decide)).toNat = a.toNat := rfl
      have x1 : ((⟨#[a, b, c]⟩ : ByteArray)[1]'(show 1 < 3 by decide)).toNat = b.toNat := rfl
      have x2 : ((⟨#[a, b, c]⟩ : ByteArray)[2]'(show 2 < 3 by decide)).toNat = c.toNat := rfl
      have He := Lib.hid (show unfK (.u16 true) [a, b, c] = false by simp [unfK]; try omega)
      go_enter Tryd.func62, Tryd.ntmps62
      go_wp2
      go_ret
      exact ⟨by rw [He.out]; rfl, Below.refl _ _⟩
  · have x0 : ((⟨#[a, b, c]⟩ : ByteArray)[0]'(show 0 < 3 by decide)).toNat = a.toNat := rfl
    have x1 : ((⟨#[a, b, c]⟩ : ByteArray)[1]'(show 1 < 3 by decide)).toNat = b.toNat := rfl
    have x2 : ((⟨#[a, b, c]⟩ : ByteArray)[2]'(show 2 < 3 by decide)).toNat = c.toNat := rfl
    have He := Lib.hid (show unfK (.u16 true) [a, b, c] = false by simp [unfK]; try omega)
    go_enter Tryd.func62, Tryd.ntmps62
    go_wp2
    go_ret
    exact ⟨by rw [He.out]; rfl, Below.refl _ _⟩
set_option maxRecDepth 100000 in
set_option maxHeartbeats 4000000 in
theorem unf_24 (s : List UInt8) (w : World) (h : 4 ≤ s.length) (hl : s.length ≤ 1000000) : Calls Tryd.prog 62 #[.int .i64 2, .string ⟨s.toArray⟩] w fun e w' => e = .returned (.bool (unfK (.u16 true) s)) ∧ Below w.heap.size w w' := by
  have He := Lib.hid (show unfK (.u16 true) s = false by
    match s, h with
    | a :: b :: c :: d :: t, _ => simp [unfK])
  have h1 : ((s.length : Int) == 1) = false := by simp; omega
  have h2 : ((s.length : Int) == 2) = false := by simp; omega
  have h3 : ((s.length : Int) == 3) = false := by simp; omega
  go_enter Tryd.func62, Tryd.ntmps62
  go_wp2
  go_ret
  exact ⟨by rw [He.out]; rfl, Below.refl _ _⟩
theorem unf_2 (s : List UInt8) (w : World) (hs : 0 < s.length) (hl : s.length ≤ 1000000) : Calls Tryd.prog 62 #[.int .i64 2, .string ⟨s.toArray⟩] w fun e w' => e = .returned (.bool (unfK (.u16 true) s)) ∧ Below w.heap.size w w' := by
  match s, hs with
  | [a], _ => exact unf_21 a w
  | [a, b], _ => exact unf_22 a b w
  | [a, b, c], _ => exact unf_23 a b c w
  | a :: b :: c :: d :: t, _ => exact unf_24 _ w (by simp) hl

set_option maxRecDepth 100000 in
set_option maxHeartbeats 4000000 in
theorem unf_31 (a : UInt8) (w : World) : Calls Tryd.prog 62 #[.int .i64 3, .string ⟨[a].toArray⟩] w fun e w' => e = .returned (.bool (unfK (.u16 false) [a])) ∧ Below w.heap.size w w' := by
  have x0 : ((⟨#[a]⟩ : ByteArray)[0]'(show 0 < 1 by decide)).toNat = a.toNat := rfl
  have He := Lib.hid (show unfK (.u16 false) [a] = true by simp [unfK]; try omega)
  go_enter Tryd.func62, Tryd.ntmps62
  go_wp2
  go_ret
  exact ⟨by rw [He.out]; rfl, Below.refl _ _⟩
set_option maxRecDepth 100000 in
set_option maxHeartbeats 4000000 in
theorem unf_32 (a b : UInt8) (w : World) : Calls Tryd.prog 62 #[.int .i64 3, .string ⟨[a, b].toArray⟩] w fun e w' => e = .returned (.bool (unfK (.u16 false) [a, b])) ∧ Below w.heap.size w w' := by
  by_cases h2 : (216 : Int) ≤ (b.toNat : Int)
  · by_cases h1 : (b.toNat : Int) ≤ 219
    · have x0 : ((⟨#[a, b]⟩ : ByteArray)[0]'(show 0 < 2 by decide)).toNat = a.toNat := rfl
      have x1 : ((⟨#[a, b]⟩ : ByteArray)[1]'(show 1 < 2 by decide)).toNat = b.toNat := rfl
      have He := Lib.hid (show unfK (.u16 false) [a, b] = true by simp [unfK]; try omega)
      go_enter Tryd.func62, Tryd.ntmps62
      go_wp2
      go_ret
      exact ⟨by rw [He.out]; rfl, Below.refl _ _⟩
    · have x0 : ((⟨#[a, b]⟩ : ByteArray)[0]'(show 0 < 2 by decide)).toNat = a.toNat := rfl
      have x1 : ((⟨#[a, b]⟩ : ByteArray)[1]'(show 1 < 2 by decide)).toNat = b.toNat := rfl
      have He := Lib.hid (show unfK (.u16 false) [a, b] = false by simp [unfK]; try omega)
      go_enter Tryd.func62, Tryd.ntmps62
      go_wp2
      go_ret
      exact ⟨by rw [He.out]; rfl, Below.refl _ _⟩
  · have x0 : ((⟨#[a, b]⟩ : ByteArray)[0]'(show 0 < 2 by decide)).toNat = a.toNat := rfl
    have x1 : ((⟨#[a, b]⟩ : ByteArray)[1]'(show 1 < 2 by decide)).toNat = b.toNat := rfl
    have He := Lib.hid (show unfK (.u16 false) [a, b] = false by simp [unfK]; try omega)
    go_enter Tryd.func62, Tryd.ntmps62
    go_wp2
    go_ret
    exact ⟨by rw [He.out]; rfl, Below.refl _ _⟩
set_option maxRecDepth 100000 in
set_option maxHeartbeats 4000000 in
theorem unf_33 (a b c : UInt8) (w : World) : Calls Tryd.prog 62 #[.int .i64 3, .string ⟨[a, b, c].toArray⟩] w fun e w' => e = .returned (.bool (unfK (.u16 false) [a, b, c])) ∧ Below w.heap.size w w' := by
  by_cases h2 : (216 : Int) ≤ (b.toNat : Int)
  · by_cases h1 : (b.toNat : Int) ≤ 219
    · have x0 : ((⟨#[a, b, c]⟩ : ByteArray)[0]'(show 0 < 3 by decide)).toNat = a.toNat := rfl
      have x1 : ((⟨#[a, b, c]⟩ : ByteArray)[1]'(show 1 < 3 by decide)).toNat = b.toNat := rfl
      have x2 : ((⟨#[a, b, c]⟩ : ByteArray)[2]'(show 2 < 3 by decide)).toNat = c.toNat := rfl
      have He := Lib.hid (show unfK (.u16 false) [a, b, c] = true by simp [unfK]; try omega)
      go_enter Tryd.func62, Tryd.ntmps62
      go_wp2
      go_ret
      exact ⟨by rw [He.out]; rfl, Below.refl _ _⟩
    · have x0 : ((⟨#[a, b, c]⟩ : ByteArray)[0]'(show 0 < 3 by decide)).toNat = a.toNat := rfl
      have x1 : ((⟨#[a, b, c]⟩ : ByteArray)[1]'(show 1 < 3 by decide)).toNat = b.toNat := rfl
      have x2 : ((⟨#[a, b, c]⟩ : ByteArray)[2]'(show 2 < 3 by decide)).toNat = c.toNat := rfl
      have He := Lib.hid (show unfK (.u16 false) [a, b, c] = false by simp [unfK]; try omega)
      go_enter Tryd.func62, Tryd.ntmps62
      go_wp2
      go_ret
      exact ⟨by rw [He.out]; rfl, Below.refl _ _⟩
  · have x0 : ((⟨#[a, b, c]⟩ : ByteArray)[0]'(show 0 < 3 by decide)).toNat = a.toNat := rfl
    have x1 : ((⟨#[a, b, c]⟩ : ByteArray)[1]'(show 1 < 3 by decide)).toNat = b.toNat := rfl
    have x2 : ((⟨#[a, b, c]⟩ : ByteArray)[2]'(show 2 < 3 by decide)).toNat = c.toNat := rfl
    have He := Lib.hid (show unfK (.u16 false) [a, b, c] = false by simp [unfK]; try omega)
    go_enter Tryd.func62, Tryd.ntmps62
    go_wp2
    go_ret
    exact ⟨by rw [He.out]; rfl, Below.refl _ _⟩
set_option maxRecDepth 100000 in
set_option maxHeartbeats 4000000 in
theorem unf_34 (s : List UInt8) (w : World) (h : 4 ≤ s.length) (hl : s.length ≤ 1000000) : Calls Tryd.prog 62 #[.int .i64 3, .string ⟨s.toArray⟩] w fun e w' => e = .returned (.bool (unfK (.u16 false) s)) ∧ Below w.heap.size w w' := by
  have He := Lib.hid (show unfK (.u16 false) s = false by
    match s, h with
    | a :: b :: c :: d :: t, _ => simp [unfK])
  have h1 : ((s.length : Int) == 1) = false := by simp; omega
  have h2 : ((s.length : Int) == 2) = false := by simp; omega
  have h3 : ((s.length : Int) == 3) = false := by simp; omega
  go_enter Tryd.func62, Tryd.ntmps62
  go_wp2
  go_ret
  exact ⟨by rw [He.out]; rfl, Below.refl _ _⟩
theorem unf_3 (s : List UInt8) (w : World) (hs : 0 < s.length) (hl : s.length ≤ 1000000) : Calls Tryd.prog 62 #[.int .i64 3, .string ⟨s.toArray⟩] w fun e w' => e = .returned (.bool (unfK (.u16 false) s)) ∧ Below w.heap.size w w' := by
  match s, hs with
  | [a], _ => exact unf_31 a w
  | [a, b], _ => exact unf_32 a b w
  | [a, b, c], _ => exact unf_33 a b c w
  | a :: b :: c :: d :: t, _ => exact unf_34 _ w (by simp) hl

theorem unf_any (kind : Int) (codes : List Int) (s : List UInt8) (w : World) (hk : kind = 1 ∨ kind = 2 ∨ kind = 3) (hs : 0 < s.length) (hl : s.length ≤ 1000000) (hd : Dig w) :
    Calls Tryd.prog 62 #[.int .i64 kind, .string ⟨s.toArray⟩] w fun e w' => e = .returned (.bool (unfK (cdOf kind codes) s)) ∧ Below w.heap.size w w' := by
  rcases hk with rfl | rfl | rfl
  · exact unf_1 s w hs hl hd
  · exact unf_2 s w hs hl
  · exact unf_3 s w hs hl


set_option maxRecDepth 100000 in
set_option maxHeartbeats 4000000 in
theorem certain_any (kind : Int) (A : Option Addr) (n c : Nat) (codes : List Int) (s : List UInt8) (w : World) (h : Reads w w.heap.size 1 A n (codes.map iv)) (hC : CkE kind codes 0) (hs : s.length ≤ 100000) (hdg : Dig w) :
    Calls Tryd.prog 42 #[.agg #[.int .i64 kind, .slice A n c], .string ⟨s.toArray⟩] w fun e w' => e = .returned (.int .i64 (certK (cdOf kind codes) s.length s : Int)) ∧ Below w.heap.size w w' := by
  obtain ⟨D, hD⟩ : ∃ D, D = cdOf kind codes := ⟨_, rfl⟩
  have HDf := Lib.hid hD
  rw [← hD]
  clear hD
  have hL := below_new w (.cells #[.int .i64 kind, .slice A n c] 26)
  have HB := Lib.hid (Blk.new w 26 #[.int .i64 kind, .slice A n c])
  have HL := Lib.hid hL
  have HR := Lib.hid (h.stay hL)
  have HD := Lib.hid (hdg.below hL)
  have HC := Lib.hid hC
  have g0 := HB.out.cell 0
  by_cases h4 : kind = 4
  · subst h4
    have He := Lib.hid (show certK D s.length s = s.length by rw [HDf.out]; exact certK_one codes _ _ (Nat.le_refl _))
    clear h hC hdg hL
    go_enter Tryd.func42, Tryd.ntmps42
    go_wp2
    go_ret
    exact ⟨by rw [He.out]; rfl, HL.out⟩
  have h4n : (kind == 4) = false := by simp; exact h4
  have hk : kind = 1 ∨ kind = 2 ∨ kind = 3 := by
    rcases hC with ⟨a, _⟩ | ⟨a, _⟩ | ⟨_, e⟩
    · exact a
    · exact absurd a h4
    · cases e
  have HK := Lib.hid hk
  clear h hC hdg hL h4 hk
  go_enter Tryd.func42, Tryd.ntmps42
  go_wp2_with fail
  clear g0
  obtain ⟨W, hW⟩ : ∃ W, W = w.alloc (.cells #[.int .i64 kind, .slice A n c] 26) := ⟨_, rfl⟩
  rw [← hW] at HB HL HR HD ⊢
  clear hW
  go_loopw [5] (fun i wr => ∃ (k f : Nat), k ≤ s.length ∧ i = .int .i64 (k : Int) ∧ s.length - k ≤ f ∧ Hid (certK D s.length s = k + certK D f (s.drop k)) ∧ Hid (Below W.heap.size W wr)) (fun i _ => s.length - (intOf i).toNat)
  case atStart => exact ⟨0, s.length, by omega, rfl, by omega, Lib.hid (by rw [List.drop_zero, Nat.zero_add]), Lib.hid (Below.refl _ _)⟩
  case round =>
    obtain ⟨k, f, hk, rfl, hf, He, Hb⟩ := hrel
    have HBr := Lib.hid (HB.out.stay Hb.out)
    have HRr := Lib.hid (HR.out.stay Hb.out)
    have HDr := Lib.hid (HD.out.below Hb.out)
    by_cases hlt : k < s.length
    · have hki : (k : Int) < (s.length : Int) := by omega
      have hki2 : (k : Int) ≤ (s.length : Int) := by omega
      have hext := ext_drop s k
      have hne : s.drop k ≠ [] := by intro e; have := congrArg List.length e; rw [List.length_drop] at this; simp at this; omega
      have hbd := stepK_bd D (s.drop k) hne
      obtain ⟨f', rfl⟩ : ∃ f', f = f' + 1 := ⟨f - 1, by omega⟩
      have HTl := Lib.hid (show (s.drop k).length ≤ 1000000 by rw [List.length_drop]; omega)
      have HT0 := Lib.hid (show 0 < (s.drop k).length by rw [List.length_drop]; omega)
      have Hne := Lib.hid hne
      obtain ⟨⟨z, m, b⟩, hr⟩ : ∃ r, stepK D (s.drop k) = r := ⟨_, rfl⟩
      have Hst := Lib.hid hr
      rw [hr] at hbd
      have hm1 : 1 ≤ m := hbd.1
      have hm2 : m + k ≤ s.length := by have := hbd.2.2; rw [List.length_drop] at this; simp at this; omega
      have Hdd := Lib.hid (show (s.drop k).drop m = s.drop (k + m) by rw [List.drop_drop])
      clear hbd hr hne
      obtain ⟨T, hT⟩ : ∃ T, T = s.drop k := ⟨_, rfl⟩
      rw [← hT] at hext HTl HT0 Hst Hdd Hne He
      clear hT
      have CS := Lib.hid (show Calls Tryd.prog 27 #[.agg #[.int .i64 kind, .slice A n c], .string ⟨T.toArray⟩] wr.drew fun e v => e = .returned (.tuple #[.int .i64 (z : Int), .int .i64 (m : Int), .bool b]) ∧ Below wr.heap.size wr v from
        (cstep_good kind A n c codes T wr.drew HRr.out.drew HC.out HTl.out (HDr.out.below (Below.refl _ _).drew)).mono fun e v ⟨h1, h2⟩ => ⟨by rw [h1, ← HDf.out, Hst.out]; rfl, (Below.refl wr.heap.size wr).drew.trans h2⟩)
      have K := Lib.hid (show ∀ u, Below wr.heap.size wr u → u.cell? ⟨w.heap.size, 0, none⟩ = some (.int .i64 kind) ∧ u.cell? ⟨w.heap.size, 1, none⟩ = some (.slice A n c) from fun u hu => ⟨(HBr.out.stay hu).cell 0, (HBr.out.stay hu).cell 1⟩)
      have HbD := Lib.hid ((Below.refl wr.heap.size wr).drew)
      go_wp2_with fail
      go_region_held3 (fun u => u.cell? ⟨w.heap.size, 0, none⟩ = some (.int .i64 kind) ∧ u.cell? ⟨w.heap.size, 1, none⟩ = some (.slice A n c)) (first | exact K.out _ HbD.out | exact K.out _ hbS) (first | (go_at_call 27; (with_reducible refine CS.out.mono ?_); rintro e w5 ⟨rfl, hbS⟩))
      have HbS := Lib.hid hbS
      have HDs := Lib.hid (HDr.out.below hbS)
      clear hbS
      have HbT := Lib.hid ((Below.refl w5.heap.size w5).drew)
      have K2 := Lib.hid (show ∀ u, Below w5.heap.size w5 u → u.cell? ⟨w.heap.size, 0, none⟩ = some (.int .i64 kind) from fun u hu => ((HBr.out.stay HbS.out).stay hu).cell 0)
      cases b with
      | true =>
        have Hn := Lib.hid (show certK D s.length s = (k + m) + certK D f' (s.drop (k + m)) by rw [He.out, certK_go Hne.out Hst.out (by unfold goesK; rw [Hst.out]; rfl), Hdd.out, Nat.add_assoc])
        go_wp2_with fail
        go_quiet (fail)
        go_wp2
        go_roundw
        case rel => exact ⟨k + m, f', by omega, by go_num, by omega, Hn, Lib.hid (below_drewN (Hb.out.trans (HbS.out.mono Hb.out.size)) _)⟩
        case measure => simp [intOf]; omega
      | false =>
        have CU := Lib.hid (show Calls Tryd.prog 62 #[.int .i64 kind, .string ⟨T.toArray⟩] w5.drew fun e v => e = .returned (.bool (unfK D T)) ∧ Below w5.heap.size w5 v from
          (unf_any kind codes T w5.drew HK.out HT0.out HTl.out (HDs.out.below (Below.refl _ _).drew)).mono fun e v ⟨h1, h2⟩ => ⟨by rw [h1, ← HDf.out], (Below.refl w5.heap.size w5).drew.trans h2⟩)
        cases hu : unfK D T with
        | true =>
          have He2 := Lib.hid (show certK D s.length s = k by rw [He.out, certK_stop Hne.out (by unfold goesK; rw [Hst.out, hu]; rfl), Nat.add_zero])
          rw [hu] at CU
          clear hu
          go_wp2_with fail
          go_region_held3 (fun u => u.cell? ⟨w.heap.size, 0, none⟩ = some (.int .i64 kind)) (first | exact K2.out _ HbT.out | exact K2.out _ hbV) (first | (go_at_call 62; (with_reducible refine CU.out.mono ?_); rintro e w6 ⟨rfl, hbV⟩))
          have HbV := Lib.hid (Hb.out.trans ((HbS.out.trans (hbV.mono HbS.out.size)).mono Hb.out.size))
          clear hbV
          go_wp2
          go_ret
          exact ⟨by rw [He2.out]; rfl, HL.out.trans (HbV.out.mono HL.out.size)⟩
        | false =>
          have Hn := Lib.hid (show certK D s.length s = (k + m) + certK D f' (s.drop (k + m)) by rw [He.out, certK_go Hne.out Hst.out (by unfold goesK; rw [Hst.out, hu]; rfl), Hdd.out, Nat.add_assoc])
          rw [hu] at CU
          clear hu
          go_wp2_with fail
          go_region_held3 (fun u => u.cell? ⟨w.heap.size, 0, none⟩ = some (.int .i64 kind)) (first | exact K2.out _ HbT.out | exact K2.out _ hbV) (first | (go_at_call 62; (with_reducible refine CU.out.mono ?_); rintro e w6 ⟨rfl, hbV⟩))
          have HbV := Lib.hid (Hb.out.trans ((HbS.out.trans (hbV.mono HbS.out.size)).mono Hb.out.size))
          clear hbV
          go_wp2
          go_roundw
          case rel => exact ⟨k + m, f', by omega, by go_num, by omega, Hn, HbV⟩
          case measure => simp [intOf]; omega
    · have hki : ¬ (k : Int) < (s.length : Int) := by omega
      have He2 := Lib.hid (show certK D s.length s = k by rw [He.out, List.drop_of_length_le (by omega), certK_nil, Nat.add_zero])
      go_wp2
      go_ret
      exact ⟨by rw [He2.out]; rfl, HL.out.trans (Hb.out.mono HL.out.size)⟩

end Go.Proofs.YtbcbmmgfdobdiaaDoor
/- A stream's next, Write, Close. -/
namespace Go.Proofs.YtbcbmmgfdobdiaaDoor
open Go.RowKit

/-- what Convert's result is made of -/
def oT : Except (Int × Nat) (List UInt8) → List UInt8
  | .ok o => o
  | .error _ => []
def eT : Except (Int × Nat) (List UInt8) → Int
  | .ok _ => 0
  | .error (e, _) => e
def iT : Except (Int × Nat) (List UInt8) → Nat
  | .ok _ => 0
  | .error (_, i) => i
theorem outT_eq (r : Except (Int × Nat) (List UInt8)) : outT r = .tuple #[.string ⟨(oT r).toArray⟩, .agg #[.int .i64 (eT r), .int .i64 (iT r : Int)]] := by
  cases r with
  | ok o => rfl
  | error p => obtain ⟨e, i⟩ := p; rfl
/-- an encoding's pair, well in memory below block g -/
def StrG (w : World) (g : Nat) (k1 : Int) (A1 : Option Addr) (n1 : Nat) (q1 : List Int) (k2 : Int) (A2 : Option Addr) (n2 : Nat) (q2 : List Int) (p : Int) : Prop :=
  Reads w g 1 A1 n1 (q1.map iv) ∧ Reads w g 1 A2 n2 (q2.map iv) ∧ Dig w ∧ 0 < g ∧ g < w.heap.size ∧ CkE k1 q1 0 ∧ CkE k2 q2 0 ∧ 1 ≤ p ∧ p ≤ 4
theorem StrG.grown {w w' : World} {g : Nat} {k1 : Int} {A1 : Option Addr} {n1 : Nat} {q1 : List Int} {k2 : Int} {A2 : Option Addr} {n2 : Nat} {q2 : List Int} {p : Int} (h : StrG w g k1 A1 n1 q1 k2 A2 n2 q2 p) (hg : w.grownBy w' (some g)) : StrG w' g k1 A1 n1 q1 k2 A2 n2 q2 p :=
  ⟨h.1.grownS hg (Nat.le_of_lt h.2.2.2.2.1), h.2.1.grownS hg (Nat.le_of_lt h.2.2.2.2.1), h.2.2.1.grownB hg h.2.2.2.1, h.2.2.2.1, Nat.lt_of_lt_of_le h.2.2.2.2.1 hg.size, h.2.2.2.2.2⟩
theorem StrG.below {w w' : World} {g : Nat} {k1 : Int} {A1 : Option Addr} {n1 : Nat} {q1 : List Int} {k2 : Int} {A2 : Option Addr} {n2 : Nat} {q2 : List Int} {p : Int} (h : StrG w g k1 A1 n1 q1 k2 A2 n2 q2 p) (hb : Below w.heap.size w w') : StrG w' g k1 A1 n1 q1 k2 A2 n2 q2 p := h.grown (grown_of_below hb _)
theorem grown_drew {a w : World} {row : Option Nat} (h : a.grownBy w row) : a.grownBy w.drew row := ⟨h.os, h.tape, h.output, h.size, h.block⟩
theorem grown_drew_left {a w : World} {row : Option Nat} (h : a.drew.grownBy w row) : a.grownBy w row := ⟨h.os, h.tape, h.output, h.size, h.block⟩
/-- what next leaves: the stream goes on, or it is shut -/
def NextR (w : World) (g done n : Nat) (rest : List UInt8) (k1 : Int) (A1 : Option Addr) (n1 c1 : Nat) (k2 : Int) (A2 : Option Addr) (n2 c2 : Nat) (p : Int) (r : Except (Int × Nat) (List UInt8)) (e : Ending) (w' : World) : Prop :=
  e = .returned (.tuple #[.string ⟨(oT r).toArray⟩, .agg #[.int .i64 (eT r), .int .i64 (if eT r = 0 then 0 else ((done + iT r : Nat) : Int))]]) ∧ w.grownBy w' (some g) ∧
    (eT r = 0 → Blk w' g 47 (strV (rest.drop n) (done + n) true k1 A1 n1 c1 k2 A2 n2 c2 p)) ∧ (eT r ≠ 0 → ∃ d, d ≤ 100000 ∧ Blk w' g 47 (strV [] d false k1 A1 n1 c1 k2 A2 n2 c2 p))
theorem strictK_pos (K L : Cd) : ∀ (f i : Nat) (s : List UInt8) (e : Int) (j : Nat), strictK K L f i s = .error (e, j) → s.length ≤ f → i ≤ j ∧ j ≤ i + s.length ∧ e ≠ 0 := by
  intro f
  induction f with
  | zero => intro i s e j h hs; obtain rfl : s = [] := List.eq_nil_of_length_eq_zero (by omega); rw [strictK_nil] at h; cases h
  | succ f ih =>
    intro i s e j h hs
    by_cases h0 : s = []
    · subst h0; rw [strictK_nil] at h; cases h
    obtain ⟨⟨c, n, b⟩, hr⟩ : ∃ r, stepK K s = r := ⟨_, rfl⟩
    have hbd := stepK_bd K s h0
    rw [hr] at hbd
    simp only at hbd
    cases b with
    | false => rw [strictK_ill h0 hr] at h; cases h; exact ⟨Nat.le_refl _, by omega, by decide⟩
    | true =>
      cases hx : formK L (c : Int) with
      | none => rw [strictK_un h0 hr hx] at h; cases h; exact ⟨Nat.le_refl _, by omega, by decide⟩
      | some x =>
        rw [strictK_ok h0 hr hx] at h
        cases hq : strictK K L f (i + n) (s.drop n) with
        | error e' =>
          rw [hq] at h
          obtain ⟨e1, j1⟩ := e'
          simp [preS] at h
          obtain ⟨rfl, rfl⟩ := h
          have := ih _ _ _ _ hq (by simp; omega)
          rw [List.length_drop] at this
          exact ⟨by omega, by omega, this.2.2⟩
        | ok o => rw [hq] at h; cases h
theorem convK_pos {K L : Cd} {p : Int} {s : List UInt8} {e : Int} {j : Nat} (h : convK K L p s = .error (e, j)) : e ≠ 0 ∧ j ≤ s.length := by
  obtain rfl := convK_err h
  rw [convK_strict] at h
  have := strictK_pos K L _ _ _ _ _ h (Nat.le_refl _)
  exact ⟨this.2.2, by omega⟩
theorem eT_iT {K L : Cd} {p : Int} {s : List UInt8} : (eT (convK K L p s) = 0 ∧ iT (convK K L p s) = 0 ∧ convK K L p s = .ok (oT (convK K L p s))) ∨ (eT (convK K L p s) ≠ 0 ∧ iT (convK K L p s) ≤ s.length ∧ oT (convK K L p s) = [] ∧ convK K L p s = .error (eT (convK K L p s), iT (convK K L p s))) := by
  cases h : convK K L p s with
  | ok o => left; exact ⟨rfl, rfl, rfl⟩
  | error q => obtain ⟨e, i⟩ := q; right; have := convK_pos h; exact ⟨this.1, this.2, rfl, rfl⟩

set_option maxRecDepth 100000 in
set_option maxHeartbeats 4000000 in
theorem next_any (g n done : Nat) (rest : List UInt8) (k1 : Int) (A1 : Option Addr) (n1 c1 : Nat) (q1 : List Int) (k2 : Int) (A2 : Option Addr) (n2 c2 : Nat) (q2 : List Int) (p : Int) (w : World)
    (hB : Blk w g 47 (strV rest done true k1 A1 n1 c1 k2 A2 n2 c2 p)) (hS : StrG w g k1 A1 n1 q1 k2 A2 n2 q2 p) (hn : n ≤ rest.length) (hl : rest.length + done ≤ 100000) :
    Calls Tryd.prog 41 #[.pointer (some ⟨g, 0, none⟩), .int .i64 (n : Int)] w fun e w' => NextR w g done n rest k1 A1 n1 c1 k2 A2 n2 c2 p (convK (cdOf k1 q1) (cdOf k2 q2) p (rest.take n)) e w' := by
  obtain ⟨r, hr⟩ : ∃ r, r = convK (cdOf k1 q1) (cdOf k2 q2) p (rest.take n) := ⟨_, rfl⟩
  have Hr := Lib.hid hr
  have HT := Lib.hid (eT_iT (K := cdOf k1 q1) (L := cdOf k2 q2) (p := p) (s := rest.take n))
  rw [← hr] at HT ⊢
  clear hr
  obtain ⟨W, hW⟩ : ∃ W, W = w.alloc (.cells #[.int .i64 0, .int .i64 0] 37) := ⟨_, rfl⟩
  have bn : Below w.heap.size w W := by rw [hW]; exact below_new _ _
  have hRV : Blk W w.heap.size 37 #[.int .i64 0, .int .i64 0] := by rw [hW]; exact Blk.new _ _ _
  have hgl := hB.lt
  have HGW := Lib.hid (hB.stay bn)
  have HSW := Lib.hid (hS.below bn)
  have HRV := Lib.hid hRV
  have HgW := Lib.hid (grown_of_below bn (some g))
  clear bn hRV hB hS
  have Hlt := Lib.hid (HRV.out.lt)
  obtain ⟨X, hX⟩ : ∃ X, X = rest.take n := ⟨_, rfl⟩
  have HX := Lib.hid hX
  have HXl := Lib.hid (show X.length ≤ 100000 by rw [hX, List.length_take]; omega)
  rw [← hX] at Hr HT
  clear hX
  obtain ⟨Y, hY⟩ : ∃ Y, Y = rest.drop n := ⟨_, rfl⟩
  have HY := Lib.hid hY
  have HYl := Lib.hid (show Y.length + (done + n) ≤ 100000 by rw [hY, List.length_drop]; omega)
  clear hY
  have CT0 := Lib.hid (show Calls Tryd.prog 61 #[.pointer (some ⟨g, 0, none⟩), .int .i64 (n : Int)] W.drew fun e v => e = .returned (.string ⟨X.toArray⟩) ∧ Blk v g 47 (strV Y (done + n) true k1 A1 n1 c1 k2 A2 n2 c2 p) ∧ W.grownBy v (some g) from
    (take_any g n done rest W.drew (HGW.out.cell 0) (HGW.out.frozen 0) (HGW.out.cell 1) (HGW.out.frozen 1) hn (by omega)).mono fun e v ⟨h1, h2⟩ => by
      subst h2
      refine ⟨by rw [h1, HX.out], ?_, ?_⟩
      · have := (Blk.drew HGW.out).set_ 0 (.string ⟨(rest.drop n).toArray⟩) |>.set_ 1 (.int .i64 ((done + n : Nat) : Int))
        rw [strV_set01] at this
        rw [HY.out]; exact this
      · exact grown_setCell (grown_setCell (grown_drew (grownS_refl W g)) (.inl rfl) _) (.inl rfl) _)
  have CT1 := Lib.hid (show Calls Tryd.prog 61 #[.pointer (some ⟨g, 0, none⟩), .int .i64 (n : Int)] (W.alloc (.cells #[.int .i64 0, .int .i64 0] 37)).drew fun e v => e = .returned (.string ⟨X.toArray⟩) ∧ (Blk v g 47 (strV Y (done + n) true k1 A1 n1 c1 k2 A2 n2 c2 p) ∧ W.grownBy v (some g)) ∧ Blk v W.heap.size 37 #[.int .i64 0, .int .i64 0] from
    (take_any g n done rest (W.alloc (.cells #[.int .i64 0, .int .i64 0] 37)).drew ((HGW.out.alloc _).cell 0) ((HGW.out.alloc _).frozen 0) ((HGW.out.alloc _).cell 1) ((HGW.out.alloc _).frozen 1) hn (by omega)).mono fun e v ⟨h1, h2⟩ => by
      subst h2
      have hne : W.heap.size ≠ g := by have := HGW.out.lt; omega
      refine ⟨by rw [h1, HX.out], ⟨?_, ?_⟩, ?_⟩
      · have := (Blk.drew (HGW.out.alloc (.cells #[.int .i64 0, .int .i64 0] 37))).set_ 0 (.string ⟨(rest.drop n).toArray⟩) |>.set_ 1 (.int .i64 ((done + n : Nat) : Int))
        rw [strV_set01] at this
        rw [HY.out]; exact this
      · exact grown_setCell (grown_setCell (grown_drew (grown_alloc (grownS_refl W g) _)) (.inl rfl) _) (.inl rfl) _
      · exact Blk.far (Blk.far (Blk.drew (Blk.new W 37 #[.int .i64 0, .int .i64 0])) (by simpa using hne) _) (by simpa using hne) _)
  have CC := Lib.hid (show ∀ u, W.grownBy u (some g) → Calls Tryd.prog 24 #[.agg #[.int .i64 k1, .slice A1 n1 c1], .agg #[.int .i64 k2, .slice A2 n2 c2], .string ⟨X.toArray⟩, .int .i64 p] u fun e v => e = .returned (.tuple #[.string ⟨(oT r).toArray⟩, .agg #[.int .i64 (eT r), .int .i64 (iT r : Int)]]) ∧ Below u.heap.size u v from fun u hu => by
    have h := HSW.out.grown hu
    refine (convK_any k1 A1 n1 c1 q1 k2 A2 n2 c2 q2 X p u (h.1.up (Nat.le_of_lt h.2.2.2.2.1)) (h.2.1.up (Nat.le_of_lt h.2.2.2.2.1)) h.2.2.2.2.2.1 h.2.2.2.2.2.2.1 h.2.2.2.2.2.2.2.1 h.2.2.2.2.2.2.2.2 HXl.out h.2.2.1).mono fun e v ⟨h1, h2⟩ => ⟨?_, h2⟩
    rw [h1, ← Hr.out, outT_eq])
  have K := Lib.hid (show ∀ (u : World) (a : List UInt8) (b : Nat), Blk u g 47 (strV a b true k1 A1 n1 c1 k2 A2 n2 c2 p) → u.cell? ⟨g, 3, none⟩ = some (.int .i64 k1) ∧ u.cell? ⟨g, 4, none⟩ = some (.slice A1 n1 c1) ∧ u.cell? ⟨g, 5, none⟩ = some (.int .i64 k2) ∧ u.cell? ⟨g, 6, none⟩ = some (.slice A2 n2 c2) ∧ u.cell? ⟨g, 7, none⟩ = some (.int .i64 p) from fun u a b h => ⟨h.cell 3, h.cell 4, h.cell 5, h.cell 6, h.cell 7⟩)
  have HG0 := Lib.hid (show Blk W.drew g 47 (strV rest done true k1 A1 n1 c1 k2 A2 n2 c2 p) from HGW.out)
  have HG1 := Lib.hid (show Blk (W.alloc (.cells #[.int .i64 0, .int .i64 0] 37)).drew g 47 (strV rest done true k1 A1 n1 c1 k2 A2 n2 c2 p) from HGW.out.alloc _)
  have c1 : W.cell? ⟨g, 1, none⟩ = some (.int .i64 (done : Int)) := HGW.out.cell 1
  rw [hW] at c1
  go_enter_defers Tryd.func41, Tryd.ntmps41
  go_wp2_with fail
  clear c1
  rw [← hW]
  clear hW
  obtain ⟨o, ho⟩ : ∃ o, o = oT r := ⟨_, rfl⟩
  obtain ⟨fe, hfe⟩ : ∃ o, o = eT r := ⟨_, rfl⟩
  obtain ⟨fi, hfi⟩ : ∃ o, o = iT r := ⟨_, rfl⟩
  rw [← ho, ← hfe, ← hfi] at CC
  have HO := Lib.hid (And.intro ho (And.intro hfe hfi))
  clear ho hfe hfi
  have hgN : Hid (g ≠ W.heap.size) := Lib.hid (by have := HGW.out.lt; omega)
  go_cut [7, 8] from 9 to 47 (fun s7 s8 wx => s7 = .string ⟨o.toArray⟩ ∧ ∃ N : Nat, s8 = .pointer (some ⟨N, 0, none⟩) ∧ Hid (Blk wx N 37 #[.int .i64 fe, .int .i64 (fi : Int)]) ∧ Hid (W.heap.size ≤ N) ∧ Hid (Blk wx g 47 (strV Y (done + n) true k1 A1 n1 c1 k2 A2 n2 c2 p)) ∧ Hid (W.grownBy wx (some g)))
  case first =>
    go_region_held3 (fun u => u.cell? ⟨g, 3, none⟩ = some (.int .i64 k1) ∧ u.cell? ⟨g, 4, none⟩ = some (.slice A1 n1 c1) ∧ u.cell? ⟨g, 5, none⟩ = some (.int .i64 k2) ∧ u.cell? ⟨g, 6, none⟩ = some (.slice A2 n2 c2) ∧ u.cell? ⟨g, 7, none⟩ = some (.int .i64 p))
      (first | exact K.out _ _ _ HG0.out | exact K.out _ _ _ HG1.out | exact K.out _ _ _ hG6 | exact K.out _ _ _ (hG6.alloc _) | exact K.out _ _ _ hG5 | exact K.out _ _ _ (hG5.alloc _) | exact K.out _ _ _ ((hG6.far hneN _).far hneN _))
      (first
        | (go_at_call 61; (first
            | ((with_reducible refine CT0.out.mono ?_); rintro e w5 ⟨rfl, hG5, hW5⟩)
            | ((with_reducible refine CT1.out.mono ?_); rintro e w5 ⟨rfl, ⟨hG5, hW5⟩, hN5⟩)))
        | (go_at_call 24; (first
            | ((with_reducible refine (CC.out _ hW5).mono ?_); rintro e w6 ⟨rfl, hb6⟩; have hG6 := hG5.stay hb6; have hW6 := grown_trans_below hW5 hb6; (first | (have hN6 := hN5.stay hb6; have z0 := hN6.cell 0; have z1 := hN6.cell 1; have f0 := hN6.frozen 0; have f1 := hN6.frozen 1; have hneN : g ≠ W.heap.size := hgN.out) | skip))
            | ((with_reducible refine (CC.out _ (grown_alloc hW5 _)).mono ?_); rintro e w6 ⟨rfl, hb6⟩; have hG6 := (hG5.alloc _).stay hb6; have hW6 := grown_trans_below (grown_alloc hW5 _) hb6; have hN6 : Blk w6 w5.heap.size 37 #[.int .i64 0, .int .i64 0] := (Blk.new w5 37 #[.int .i64 0, .int .i64 0]).stay hb6; have z0 := hN6.cell 0; have z1 := hN6.cell 1; have f0 := hN6.frozen 0; have f1 := hN6.frozen 1; have hneN : g ≠ w5.heap.size := Nat.ne_of_lt hG5.lt))))
    · go_wp2_with fail
      go_meet
      exact ⟨rfl, w6.heap.size, rfl, Lib.hid (Blk.new _ _ _), Lib.hid hW6.size, Lib.hid (hG6.alloc _), Lib.hid (grown_alloc hW6 _)⟩
    · go_wp2_with fail
      go_meet
      exact ⟨rfl, w5.heap.size, rfl, Lib.hid ((hN6.set_ 0 _).set_ 1 _), Lib.hid hW5.size, Lib.hid ((hG6.far hneN _).far hneN _), Lib.hid (grown_setCell (grown_setCell hW6 (.inr hW5.size) _) (.inr hW5.size) _)⟩
    · go_wp2_with fail
      go_meet
      exact ⟨rfl, W.heap.size, rfl, Lib.hid ((hN6.set_ 0 _).set_ 1 _), Lib.hid (Nat.le_refl _), Lib.hid ((hG6.far hneN _).far hneN _), Lib.hid (grown_setCell (grown_setCell hW6 (.inr (Nat.le_refl _)) _) (.inr (Nat.le_refl _)) _)⟩
  case rest =>
    obtain ⟨rfl, N, rfl, HN, HNl, HG, HGr⟩ := hcut
    clear CT0 CT1 CC K HG0 HG1
    have hneR : w.heap.size ≠ g := by omega
    have hneN : w.heap.size ≠ N := by have := HNl.out; have := Hlt.out; omega
    have hRV := HRV.out.grownS HGr.out hneR
    have HwG := Lib.hid (grown_trans HgW.out HGr.out)
    have m0 := HN.out.cell 0
    have m1 := HN.out.cell 1
    have z0 := hRV.cell 0
    have z1 := hRV.cell 1
    have f0 := hRV.frozen 0
    have f1 := hRV.frozen 1
    have HRW := Lib.hid hRV
    clear hRV
    rcases HT.out with ⟨h1, h2, h3⟩ | ⟨h1, h2, h3, h4⟩
    · obtain ⟨ho, hfe, hfi⟩ := HO.out
      obtain rfl : fe = 0 := by rw [hfe, h1]
      have Ho := Lib.hid ho
      have H1 := Lib.hid h1
      clear h1 h2 h3 ho hfe hfi HT HO
      have hF2 := (HRW.out.set_ 0 (.int .i64 0)).set_ 1 (.int .i64 0)
      have d0 := hF2.cell 0
      have d1 := hF2.cell 1
      have gF := grown_setCell (p := ⟨w.heap.size, 1, none⟩) (grown_setCell (p := ⟨w.heap.size, 0, none⟩) HwG.out (.inr (Nat.le_refl _)) (.int .i64 0)) (.inr (Nat.le_refl _)) (.int .i64 0)
      have bF := (HG.out.far (p := ⟨w.heap.size, 0, none⟩) (by simpa using hneR.symm) (.int .i64 0)).far (p := ⟨w.heap.size, 1, none⟩) (by simpa using hneR.symm) (.int .i64 0)
      have D := Lib.hid (And.intro d0 d1)
      have GF := Lib.hid gF
      have BF := Lib.hid bF
      clear d0 d1 gF bF hF2
      go_wp2
      obtain ⟨d0, d1⟩ := D.out
      have gF := GF.out
      have bF := BF.out
      clear D GF BF z0 z1 f0 f1
      generalize World.setCell (World.setCell wc ⟨w.heap.size, 0, none⟩ (.int .i64 0)) ⟨w.heap.size, 1, none⟩ (.int .i64 0) = V at d0 d1 gF bF ⊢
      refine Exists.intro (.tuple #[.string ⟨o.toArray⟩, .agg #[.int .i64 0, .int .i64 0]]) (And.intro (by simp [results, Tryd.results41, go_sem] at d0 d1 ⊢; simp [d0, d1]) ?_)
      unfold NextR
      exact ⟨by rw [H1.out, if_pos rfl, ← Ho.out], gF, fun _ => by rw [← HY.out]; exact bF, fun h => absurd H1.out h⟩
    · obtain ⟨ho, hfe, hfi⟩ := HO.out
      have hfn : (fe != 0) = true := bne_iff_ne.2 (by rw [hfe]; exact h1)
      have hfil : fi ≤ 100000 := by rw [hfi]; have := HXl.out; omega
      have hsum : IntKind.i64.wrap ((done : Int) + (fi : Int)) = ((done + fi : Nat) : Int) := by rw [IntWalk.i64_in _ (by omega)]; omega
      have Hsum := Lib.hid hsum
      have HF := Lib.hid (And.intro ho (And.intro hfe (And.intro hfi (And.intro h1 h3))))
      clear h1 h2 h3 h4 ho hfe hfi HT HO
      go_wp2_with fail
      have K2 := Lib.hid (show ∀ u, Blk u N 37 #[.int .i64 fe, .int .i64 (fi : Int)] → u.cell? ⟨N, 0, none⟩ = some (.int .i64 fe) ∧ u.cell? ⟨N, 1, none⟩ = some (.int .i64 (fi : Int)) from fun u h => ⟨h.cell 0, h.cell 1⟩)
      have HNd := Lib.hid (show Blk wc.drew N 37 #[.int .i64 fe, .int .i64 (fi : Int)] from HN.out)
      have hneN2 : Hid (N ≠ w.heap.size) := Lib.hid hneN.symm
      go_region_held3 (fun u => u.cell? ⟨N, 0, none⟩ = some (.int .i64 fe) ∧ u.cell? ⟨N, 1, none⟩ = some (.int .i64 (fi : Int))) (first | exact K2.out _ HNd.out | exact K2.out _ ((HNd.out.far (p := ⟨w.heap.size, 0, none⟩) hneN2.out _).far (p := ⟨w.heap.size, 1, none⟩) hneN2.out _)) (first | (go_at_call 43; fail))
      have hFz : Blk ((wc.setCell ⟨w.heap.size, 0, none⟩ (.int .i64 fe)).setCell ⟨w.heap.size, 1, none⟩ (.int .i64 ((done : Int) + (fi : Int)))).drew w.heap.size 37 #[.int .i64 fe, .int .i64 ((done : Int) + (fi : Int))] := (HRW.out.set_ 0 (.int .i64 fe)).set_ 1 (.int .i64 ((done : Int) + (fi : Int)))
      have hGz : Blk ((wc.setCell ⟨w.heap.size, 0, none⟩ (.int .i64 fe)).setCell ⟨w.heap.size, 1, none⟩ (.int .i64 ((done : Int) + (fi : Int)))).drew g 47 (strV Y (done + n) true k1 A1 n1 c1 k2 A2 n2 c2 p) := (HG.out.far (p := ⟨w.heap.size, 0, none⟩) (by simpa using hneR.symm) (.int .i64 fe)).far (p := ⟨w.heap.size, 1, none⟩) (by simpa using hneR.symm) (.int .i64 ((done : Int) + (fi : Int)))
      have gz := grown_drew (grown_setCell (p := ⟨w.heap.size, 1, none⟩) (grown_setCell (p := ⟨w.heap.size, 0, none⟩) HwG.out (.inr (Nat.le_refl _)) (.int .i64 fe)) (.inr (Nat.le_refl _)) (.int .i64 ((done : Int) + (fi : Int))))
      generalize ((wc.setCell ⟨w.heap.size, 0, none⟩ (.int .i64 fe)).setCell ⟨w.heap.size, 1, none⟩ (.int .i64 ((done : Int) + (fi : Int)))).drew = Z at hFz hGz gz ⊢
      have HFz := Lib.hid hFz
      have HGz := Lib.hid hGz
      have Gz := Lib.hid gz
      clear hFz hGz gz z0 z1 f0 f1 m0 m1
      go_wp2
      refine leaves_cons (f := 43) (args := #[.pointer (some ⟨g, 0, none⟩)]) (by simp) (by simp [go_sem]) ?_
      refine (shut_any g (done + n) Y true k1 A1 n1 c1 k2 A2 n2 c2 p .returning Z HGz.out (by have := HYl.out; omega)).mono ?_
      rintro e u' w7 ⟨rfl, rfl, hB7, hg7⟩
      have hF7 := HFz.out.grownS hg7 hneR
      have d0 := hF7.cell 0
      have d1 := hF7.cell 1
      obtain ⟨ho, hfe, hfi, h1, h3⟩ := HF.out
      refine Exists.intro (.tuple #[.string ⟨([] : List UInt8).toArray⟩, .agg #[.int .i64 fe, .int .i64 ((done : Int) + (fi : Int))]]) (And.intro (by simp [results, Tryd.results41, go_sem] at d0 d1 ⊢; simp [d0, d1]) ?_)
      unfold NextR
      refine ⟨?_, grown_trans Gz.out hg7, fun h => absurd h h1, fun _ => ⟨_, ?_, hB7⟩⟩
      · rw [h3, if_neg h1, ← hfe, ← hfi]; simp
      · have := HYl.out; omega
end Go.Proofs.YtbcbmmgfdobdiaaDoor
/- A stream's Write, Close. -/
namespace Go.Proofs.YtbcbmmgfdobdiaaDoor
open Go.RowKit

def shutE : Value := .tuple #[.string ⟨([] : List UInt8).toArray⟩, .agg #[.int .i64 15, .int .i64 0]]

set_option maxRecDepth 100000 in
set_option maxHeartbeats 4000000 in
theorem write_nil (b : List UInt8) (w : World) : Calls Tryd.prog 19 #[.pointer none, .string ⟨b.toArray⟩] w fun e w' => e = .returned shutE ∧ Below w.heap.size w w' := by
  have p := Blk.new w 37 #[.int .i64 0, .int .i64 0]
  have z0 := p.cell 0
  have z1 := p.cell 1
  have f0 := p.frozen 0
  have f1 := p.frozen 1
  clear p
  go_enter Tryd.func19, Tryd.ntmps19
  go_wp2_with fail
  refine (closed_nil _).mono ?_
  rintro e w' ⟨rfl, rfl⟩
  go_wp2
  exact bodyPost_ret (v := shutE) (by simp [results, Tryd.results19, go_sem]; rfl) rfl ⟨rfl, below_new _ _⟩
set_option maxRecDepth 100000 in
set_option maxHeartbeats 4000000 in
theorem write_shut (g : Nat) (b : List UInt8) (w : World) (hc : w.cell? ⟨g, 2, none⟩ = some (.bool false)) (hg : g < w.heap.size) : Calls Tryd.prog 19 #[.pointer (some ⟨g, 0, none⟩), .string ⟨b.toArray⟩] w fun e w' => e = .returned shutE ∧ Below w.heap.size w w' := by
  have p := Blk.new w 37 #[.int .i64 0, .int .i64 0]
  have z0 := p.cell 0
  have z1 := p.cell 1
  have f0 := p.frozen 0
  have f1 := p.frozen 1
  have HC := Lib.hid (show (w.alloc (.cells #[.int .i64 0, .int .i64 0] 37)).cell? ⟨g, 2, none⟩ = some (.bool false) by rw [World.cell?_alloc_lt _ _ _ hg]; exact hc)
  clear p hc
  go_enter Tryd.func19, Tryd.ntmps19
  go_wp2_with fail
  refine (closed_any g false _ HC.out).mono ?_
  rintro e w' ⟨rfl, rfl⟩
  clear HC
  go_wp2
  exact bodyPost_ret (v := shutE) (by simp [results, Tryd.results19, go_sem]; rfl) rfl ⟨rfl, below_new _ _⟩
set_option maxRecDepth 100000 in
set_option maxHeartbeats 4000000 in
theorem close_nil (w : World) : Calls Tryd.prog 20 #[.pointer none] w fun e w' => e = .returned shutE ∧ Below w.heap.size w w' := by
  have p := Blk.new w 37 #[.int .i64 0, .int .i64 0]
  have z0 := p.cell 0
  have z1 := p.cell 1
  have f0 := p.frozen 0
  have f1 := p.frozen 1
  clear p
  go_enter_defers Tryd.func20, Tryd.ntmps20
  go_wp2_with fail
  refine (closed_nil _).mono ?_
  rintro e w' ⟨rfl, rfl⟩
  go_wp2
  exact Exists.intro shutE (And.intro (by simp [results, Tryd.results20, go_sem]; rfl) ⟨rfl, below_new _ _⟩)
set_option maxRecDepth 100000 in
set_option maxHeartbeats 4000000 in
theorem close_shut (g : Nat) (w : World) (hc : w.cell? ⟨g, 2, none⟩ = some (.bool false)) (hg : g < w.heap.size) : Calls Tryd.prog 20 #[.pointer (some ⟨g, 0, none⟩)] w fun e w' => e = .returned shutE ∧ Below w.heap.size w w' := by
  have p := Blk.new w 37 #[.int .i64 0, .int .i64 0]
  have z0 := p.cell 0
  have z1 := p.cell 1
  have f0 := p.frozen 0
  have f1 := p.frozen 1
  have HC := Lib.hid (show (w.alloc (.cells #[.int .i64 0, .int .i64 0] 37)).cell? ⟨g, 2, none⟩ = some (.bool false) by rw [World.cell?_alloc_lt _ _ _ hg]; exact hc)
  clear p hc
  go_enter_defers Tryd.func20, Tryd.ntmps20
  go_wp2_with fail
  refine (closed_any g false _ HC.out).mono ?_
  rintro e w' ⟨rfl, rfl⟩
  clear HC
  go_wp2
  exact Exists.intro shutE (And.intro (by simp [results, Tryd.results20, go_sem]; rfl) ⟨rfl, below_new _ _⟩)

set_option maxRecDepth 100000 in
set_option maxHeartbeats 4000000 in
theorem write_any (g done : Nat) (rest b : List UInt8) (k1 : Int) (A1 : Option Addr) (n1 c1 : Nat) (q1 : List Int) (k2 : Int) (A2 : Option Addr) (n2 c2 : Nat) (q2 : List Int) (p : Int) (w : World)
    (hB : Blk w g 47 (strV rest done true k1 A1 n1 c1 k2 A2 n2 c2 p)) (hS : StrG w g k1 A1 n1 q1 k2 A2 n2 q2 p) (hl : rest.length + b.length + done ≤ 100000) :
    Calls Tryd.prog 19 #[.pointer (some ⟨g, 0, none⟩), .string ⟨b.toArray⟩] w fun e w' => NextR w g done (certK (cdOf k1 q1) (rest ++ b).length (rest ++ b)) (rest ++ b) k1 A1 n1 c1 k2 A2 n2 c2 p (convK (cdOf k1 q1) (cdOf k2 q2) p ((rest ++ b).take (certK (cdOf k1 q1) (rest ++ b).length (rest ++ b)))) e w' := by
  obtain ⟨R, hR⟩ : ∃ R, R = rest ++ b := ⟨_, rfl⟩
  have hRl : R.length + done ≤ 100000 := by rw [hR, List.length_append]; omega
  rw [← hR]
  have HR := Lib.hid hR
  clear hR
  obtain ⟨n, hn⟩ : ∃ n, n = certK (cdOf k1 q1) R.length R := ⟨_, rfl⟩
  have Hn := Lib.hid hn
  have hnl : n ≤ R.length := by rw [hn]; exact certK_le _ _
  rw [← hn]
  clear hn
  obtain ⟨W, hW⟩ : ∃ W, W = w.alloc (.cells #[.int .i64 0, .int .i64 0] 37) := ⟨_, rfl⟩
  have bn : Below w.heap.size w W := by rw [hW]; exact below_new _ _
  have hRV : Blk W w.heap.size 37 #[.int .i64 0, .int .i64 0] := by rw [hW]; exact Blk.new _ _ _
  have hgl := hB.lt
  have hGW := hB.stay bn
  obtain ⟨W1, hW1⟩ : ∃ W1, W1 = W.setCell ⟨g, 0, none⟩ (.string ⟨R.toArray⟩) := ⟨_, rfl⟩
  have hG1 : Blk W1 g 47 (strV R done true k1 A1 n1 c1 k2 A2 n2 c2 p) := by rw [hW1, ← strV_set0 rest R done true k1 A1 n1 c1 k2 A2 n2 c2 p]; exact hGW.set_ 0 _
  have hg1 : w.grownBy W1 (some g) := by rw [hW1]; exact grown_setCell (grown_of_below bn (some g)) (.inl rfl) _
  have hRV1 : Blk W1 w.heap.size 37 #[.int .i64 0, .int .i64 0] := by rw [hW1]; exact hRV.far (by show w.heap.size ≠ g; omega) _
  have HS1 := Lib.hid (hS.grown hg1)
  have HG1 := Lib.hid hG1
  have Hg1 := Lib.hid hg1
  have HRV1 := Lib.hid hRV1
  have HGW := Lib.hid hGW
  clear bn hRV hB hS hG1 hg1 hRV1 hGW
  go_enter Tryd.func19, Tryd.ntmps19
  go_wp2_with fail
  rw [← hW]
  clear hW
  refine (closed_any g true W (HGW.out.cell 2)).mono ?_
  rintro e w1 ⟨rfl, rfl⟩
  go_wp2_with fail
  refine (add_any g rest b w1 (HGW.out.cell 0) (HGW.out.frozen 0) (by omega)).mono ?_
  rintro e w2 ⟨rfl, rfl⟩
  rw [← HR.out, ← hW1]
  clear hW1 HGW
  go_wp2_with fail
  have c0 : W1.drew.cell? ⟨g, 0, none⟩ = some (.string ⟨R.toArray⟩) := HG1.out.cell 0
  have c3 : W1.drew.cell? ⟨g, 3, none⟩ = some (.int .i64 k1) := HG1.out.cell 3
  have c4 : W1.drew.cell? ⟨g, 4, none⟩ = some (.slice A1 n1 c1) := HG1.out.cell 4
  have CE := Lib.hid (show Calls Tryd.prog 42 #[.agg #[.int .i64 k1, .slice A1 n1 c1], .string ⟨R.toArray⟩] W1.drew fun e v => e = .returned (.int .i64 (n : Int)) ∧ Below W1.heap.size W1 v from by
    have h := HS1.out
    have hle := Nat.le_of_lt h.2.2.2.2.1
    refine (certain_any k1 A1 n1 c1 q1 R W1.drew (h.1.up hle).drew h.2.2.2.2.2.1 (by omega) (h.2.2.1.below (Below.refl _ _).drew)).mono fun e v ⟨h1, h2⟩ => ⟨by rw [h1, Hn.out], (Below.refl W1.heap.size W1).drew.trans h2⟩)
  obtain ⟨r, hr⟩ : ∃ r, r = convK (cdOf k1 q1) (cdOf k2 q2) p (R.take n) := ⟨_, rfl⟩
  have Hr := Lib.hid hr
  obtain ⟨o, ho⟩ : ∃ o, o = oT r := ⟨_, rfl⟩
  obtain ⟨fe, hfe⟩ : ∃ o, o = eT r := ⟨_, rfl⟩
  obtain ⟨fv, hfv⟩ : ∃ x : Int, x = (if eT r = 0 then 0 else ((done + iT r : Nat) : Int)) := ⟨_, rfl⟩
  have HO := Lib.hid (And.intro ho (And.intro hfe hfv))
  clear hr ho hfe hfv
  have NX := Lib.hid (show ∀ v, Below W1.heap.size W1 v → Calls Tryd.prog 41 #[.pointer (some ⟨g, 0, none⟩), .int .i64 (n : Int)] v fun e v' => e = .returned (.tuple #[.string ⟨o.toArray⟩, .agg #[.int .i64 fe, .int .i64 fv]]) ∧ v.grownBy v' (some g) ∧ NextR v g done n R k1 A1 n1 c1 k2 A2 n2 c2 p r (.returned (.tuple #[.string ⟨o.toArray⟩, .agg #[.int .i64 fe, .int .i64 fv]])) v' from fun v hv => by
    refine (next_any g n done R k1 A1 n1 c1 q1 k2 A2 n2 c2 q2 p v (HG1.out.stay hv) (HS1.out.below hv) hnl hRl).mono fun e v' h => ?_
    rw [← Hr.out] at h
    obtain ⟨ho, hfe, hfv⟩ := HO.out
    have he : e = .returned (.tuple #[.string ⟨o.toArray⟩, .agg #[.int .i64 fe, .int .i64 fv]]) := by rw [h.1, ho, hfe, hfv]
    exact ⟨he, h.2.1, by rw [← he]; exact h⟩)
  have hneR : Hid (w.heap.size ≠ g) := Lib.hid (by omega)
  go_region_with (first | (go_at_call 42; (with_reducible refine CE.out.mono ?_); rintro e w5 ⟨rfl, hb5⟩) | (go_at_call 41; (with_reducible refine (NX.out _ hb5).mono ?_); rintro e w6 ⟨rfl, hg6, hN6⟩; have hRV6 := (HRV1.out.stay hb5).grownS hg6 hneR.out; have z0 := hRV6.cell 0; have z1 := hRV6.cell 1; have f0 := hRV6.frozen 0; have f1 := hRV6.frozen 1))
  all_goals
    have hF2 := (hRV6.set_ 0 (.int .i64 fe)).set_ 1 (.int .i64 fv)
    have d0 := hF2.cell 0
    have d1 := hF2.cell 1
    have gW : w.grownBy w6 (some g) := grown_trans (grown_trans_below Hg1.out hb5) hg6
    have gF := grown_setCell (p := ⟨w.heap.size, 1, none⟩) (grown_setCell (p := ⟨w.heap.size, 0, none⟩) gW (.inr (Nat.le_refl _)) (.int .i64 fe)) (.inr (Nat.le_refl _)) (.int .i64 fv)
    have HN := Lib.hid (show NextR w g done n R k1 A1 n1 c1 k2 A2 n2 c2 p r (.returned (.tuple #[.string ⟨o.toArray⟩, .agg #[.int .i64 fe, .int .i64 fv]])) ((w6.setCell ⟨w.heap.size, 0, none⟩ (.int .i64 fe)).setCell ⟨w.heap.size, 1, none⟩ (.int .i64 fv)) from
      ⟨hN6.1, gF, fun h => ((hN6.2.2.1 h).far (by show g ≠ w.heap.size; exact hneR.out.symm) _).far (by show g ≠ w.heap.size; exact hneR.out.symm) _, fun h => by
        obtain ⟨d, hd, hB⟩ := hN6.2.2.2 h
        exact ⟨d, hd, (hB.far (by show g ≠ w.heap.size; exact hneR.out.symm) _).far (by show g ≠ w.heap.size; exact hneR.out.symm) _⟩⟩)
    clear hN6 gF gW
    go_wp2
    exact bodyPost_ret (v := .tuple #[.string ⟨o.toArray⟩, .agg #[.int .i64 fe, .int .i64 fv]]) (by simp [results, Tryd.results19, go_sem] at d0 d1 ⊢; simp [d0, d1]) rfl (by rw [← Hr.out]; exact HN.out)

/-- what Close leaves -/
def CloseR (w : World) (g done : Nat) (k1 : Int) (A1 : Option Addr) (n1 c1 : Nat) (k2 : Int) (A2 : Option Addr) (n2 c2 : Nat) (p : Int) (r : Except (Int × Nat) (List UInt8)) (e : Ending) (w' : World) : Prop :=
  e = .returned (.tuple #[.string ⟨(oT r).toArray⟩, .agg #[.int .i64 (eT r), .int .i64 (if eT r = 0 then 0 else ((done + iT r : Nat) : Int))]]) ∧ w.grownBy w' (some g) ∧ ∃ d, Blk w' g 47 (strV [] d false k1 A1 n1 c1 k2 A2 n2 c2 p)

set_option maxRecDepth 100000 in
set_option maxHeartbeats 4000000 in
theorem close_any (g done : Nat) (rest : List UInt8) (k1 : Int) (A1 : Option Addr) (n1 c1 : Nat) (q1 : List Int) (k2 : Int) (A2 : Option Addr) (n2 c2 : Nat) (q2 : List Int) (p : Int) (w : World)
    (hB : Blk w g 47 (strV rest done true k1 A1 n1 c1 k2 A2 n2 c2 p)) (hS : StrG w g k1 A1 n1 q1 k2 A2 n2 q2 p) (hl : rest.length + done ≤ 100000) :
    Calls Tryd.prog 20 #[.pointer (some ⟨g, 0, none⟩)] w fun e w' => CloseR w g done k1 A1 n1 c1 k2 A2 n2 c2 p (convK (cdOf k1 q1) (cdOf k2 q2) p rest) e w' := by
  obtain ⟨W, hW⟩ : ∃ W, W = w.alloc (.cells #[.int .i64 0, .int .i64 0] 37) := ⟨_, rfl⟩
  have bn : Below w.heap.size w W := by rw [hW]; exact below_new _ _
  have hRV : Blk W w.heap.size 37 #[.int .i64 0, .int .i64 0] := by rw [hW]; exact Blk.new _ _ _
  have hgl := hB.lt
  have HGW := Lib.hid (hB.stay bn)
  have HSW := Lib.hid (hS.below bn)
  have HRV := Lib.hid hRV
  have HgW := Lib.hid (grown_of_below bn (some g))
  clear bn hRV hB hS
  obtain ⟨r, hr⟩ : ∃ r, r = convK (cdOf k1 q1) (cdOf k2 q2) p rest := ⟨_, rfl⟩
  have Hr := Lib.hid hr
  rw [← hr]
  obtain ⟨o, ho⟩ : ∃ o, o = oT r := ⟨_, rfl⟩
  obtain ⟨fe, hfe⟩ : ∃ o, o = eT r := ⟨_, rfl⟩
  obtain ⟨fv, hfv⟩ : ∃ x : Int, x = (if eT r = 0 then 0 else ((done + iT r : Nat) : Int)) := ⟨_, rfl⟩
  have HO := Lib.hid (And.intro ho (And.intro hfe hfv))
  clear hr ho hfe hfv
  have hneR : w.heap.size ≠ g := by omega
  go_enter_defers Tryd.func20, Tryd.ntmps20
  go_wp2_with fail
  rw [← hW]
  clear hW
  refine (closed_any g true W (HGW.out.cell 2)).mono ?_
  rintro e w1 ⟨rfl, rfl⟩
  have c0 : w1.cell? ⟨g, 0, none⟩ = some (.string ⟨rest.toArray⟩) := HGW.out.cell 0
  go_wp2_with fail
  clear c0
  refine (next_any g rest.length done rest k1 A1 n1 c1 q1 k2 A2 n2 c2 q2 p w1 HGW.out HSW.out (Nat.le_refl _) hl).mono ?_
  intro e w6 hN
  rw [List.take_length, ← Hr.out] at hN
  obtain ⟨ho, hfe, hfv⟩ := HO.out
  have he : e = .returned (.tuple #[.string ⟨o.toArray⟩, .agg #[.int .i64 fe, .int .i64 fv]]) := by rw [hN.1, ho, hfe, hfv]
  subst he
  have hRV6 := HRV.out.grownS hN.2.1 hneR
  have z0 := hRV6.cell 0
  have z1 := hRV6.cell 1
  have f0 := hRV6.frozen 0
  have f1 := hRV6.frozen 1
  have hst : ∃ rest' d op, Blk w6 g 47 (strV rest' d op k1 A1 n1 c1 k2 A2 n2 c2 p) ∧ rest'.length + d ≤ 1000000 := by
    by_cases h0 : eT r = 0
    · have := hN.2.2.1 h0
      rw [List.drop_length] at this
      exact ⟨[], _, true, this, by simp; omega⟩
    · obtain ⟨d, hd, hB⟩ := hN.2.2.2 h0
      exact ⟨[], d, false, hB, by simp; omega⟩
  obtain ⟨rest', d', op, hB6, hl6⟩ := hst
  have gW := grown_trans HgW.out hN.2.1
  have hFz := (hRV6.set_ 0 (.int .i64 fe)).set_ 1 (.int .i64 fv)
  have hGz := (hB6.far (p := ⟨w.heap.size, 0, none⟩) (by simpa using hneR.symm) (.int .i64 fe)).far (p := ⟨w.heap.size, 1, none⟩) (by simpa using hneR.symm) (.int .i64 fv)
  have gz := grown_setCell (p := ⟨w.heap.size, 1, none⟩) (grown_setCell (p := ⟨w.heap.size, 0, none⟩) gW (.inr (Nat.le_refl _)) (.int .i64 fe)) (.inr (Nat.le_refl _)) (.int .i64 fv)
  have HFz := Lib.hid hFz
  have HGz := Lib.hid hGz
  have Gz := Lib.hid gz
  clear hN hFz hGz gz gW hB6 ho hfe hfv
  go_wp2
  generalize (w6.setCell ⟨w.heap.size, 0, none⟩ (.int .i64 fe)).setCell ⟨w.heap.size, 1, none⟩ (.int .i64 fv) = Z at HFz HGz Gz ⊢
  refine leaves_cons (f := 43) (args := #[.pointer (some ⟨g, 0, none⟩)]) (by simp) (by simp [go_sem]) ?_
  refine (shut_any g d' rest' op k1 A1 n1 c1 k2 A2 n2 c2 p .returning Z HGz.out hl6).mono ?_
  rintro e u' w7 ⟨rfl, rfl, hB7, hg7⟩
  have hF7 := HFz.out.grownS hg7 hneR
  have d0 := hF7.cell 0
  have d1 := hF7.cell 1
  refine Exists.intro (.tuple #[.string ⟨o.toArray⟩, .agg #[.int .i64 fe, .int .i64 fv]]) (And.intro (by simp [results, Tryd.results20, go_sem] at d0 d1 ⊢; simp [d0, d1]) ?_)
  obtain ⟨ho, hfe, hfv⟩ := HO.out
  exact ⟨by rw [ho, hfe, hfv], grown_trans Gz.out hg7, _, hB7⟩
end Go.Proofs.YtbcbmmgfdobdiaaDoor
/- Streams as the laws use them: New, Write, Close, Pending over what was written so far. -/
namespace Go.Proofs.YtbcbmmgfdobdiaaDoor
open Go.RowKit

/-- an open stream: what is left, how much is done; b0: from there on its own memory lies -/
def StrO (w : World) (g b0 : Nat) (K L : Cd) (p : Int) (rest : List UInt8) (done : Nat) : Prop := ∃ (k1 : Int) (A1 : Option Addr) (n1 c1 : Nat) (q1 : List Int) (k2 : Int) (A2 : Option Addr) (n2 c2 : Nat) (q2 : List Int),
  StrG w g k1 A1 n1 q1 k2 A2 n2 q2 p ∧ cdOf k1 q1 = K ∧ cdOf k2 q2 = L ∧ (b0 ≤ g ∧ 0 < b0 ∧ (∀ ad : Addr, A1 = some ad → b0 ≤ ad.block) ∧ ∀ ad : Addr, A2 = some ad → b0 ≤ ad.block) ∧ Blk w g 47 (strV rest done true k1 A1 n1 c1 k2 A2 n2 c2 p)
/-- a stream that is shut -/
def StrC (w : World) (g : Nat) : Prop := ∃ cs : Array Value, Blk w g 47 cs ∧ cs[2]? = some (.bool false)
theorem StrO.stay {w w' : World} {g b0 : Nat} {K L : Cd} {p : Int} {rest : List UInt8} {done : Nat} (h : StrO w g b0 K L p rest done) (hb : Below w.heap.size w w') : StrO w' g b0 K L p rest done := by
  obtain ⟨k1, A1, n1, c1, q1, k2, A2, n2, c2, q2, h1, h2, h3, h4, h5⟩ := h
  exact ⟨k1, A1, n1, c1, q1, k2, A2, n2, c2, q2, h1.below hb, h2, h3, h4, h5.stay hb⟩
theorem StrC.stay {w w' : World} {g : Nat} (h : StrC w g) (hb : Below w.heap.size w w') : StrC w' g := by
  obtain ⟨cs, h1, h2⟩ := h
  exact ⟨cs, h1.stay hb, h2⟩
theorem StrC.cell {w : World} {g : Nat} (h : StrC w g) : w.cell? ⟨g, 2, none⟩ = some (.bool false) := by
  obtain ⟨cs, h1, h2⟩ := h
  rw [h1.cell 2, h2]
theorem StrC.lt {w : World} {g : Nat} (h : StrC w g) : g < w.heap.size := by obtain ⟨cs, h1, h2⟩ := h; exact h1.lt
theorem StrO.lt {w : World} {g b0 : Nat} {K L : Cd} {p : Int} {rest : List UInt8} {done : Nat} (h : StrO w g b0 K L p rest done) : g < w.heap.size := by
  obtain ⟨k1, A1, n1, c1, q1, k2, A2, n2, c2, q2, h1, h2, h3, h4, h5⟩ := h
  exact h5.lt
theorem StrO.cells {w : World} {g b0 : Nat} {K L : Cd} {p : Int} {rest : List UInt8} {done : Nat} (h : StrO w g b0 K L p rest done) : w.cell? ⟨g, 2, none⟩ = some (.bool true) ∧ w.cell? ⟨g, 0, none⟩ = some (.string ⟨rest.toArray⟩) := by
  obtain ⟨k1, A1, n1, c1, q1, k2, A2, n2, c2, q2, h1, h2, h3, h4, h5⟩ := h
  exact ⟨h5.cell 2, h5.cell 0⟩
/-- another stream's doing -/
theorem StrO.other {w w' : World} {g g' b0 : Nat} {K L : Cd} {p : Int} {rest : List UInt8} {done : Nat} (h : StrO w g b0 K L p rest done) (hg : w.grownBy w' (some g')) (hl : g' < b0) (hd : 0 < g') : StrO w' g b0 K L p rest done := by
  obtain ⟨k1, A1, n1, c1, q1, k2, A2, n2, c2, q2, h1, h2, h3, h4, h5⟩ := h
  have rd : ∀ {A : Option Addr} {n : Nat} {xs : List Value}, Reads w g 1 A n xs → (∀ ad : Addr, A = some ad → b0 ≤ ad.block) → Reads w' g 1 A n xs := fun {A n xs} hr hlow => ⟨hr.1, fun hn => by
    obtain ⟨ad, e, hb, hc⟩ := hr.2 hn
    have := hlow ad e
    refine ⟨ad, e, hb, fun j u hu => (World.cell?_of_block ?_).trans (hc j u hu)⟩
    rw [block_of_add]
    exact hg.block _ (Nat.lt_trans hb h5.lt) (by intro e'; injection e' with e'; omega)⟩
  refine ⟨k1, A1, n1, c1, q1, k2, A2, n2, c2, q2, ⟨rd h1.1 h4.2.2.1, rd h1.2.1 h4.2.2.2, h1.2.2.1.grownB hg hd, h1.2.2.2.1, Nat.lt_of_lt_of_le h1.2.2.2.2.1 hg.size, h1.2.2.2.2.2⟩, h2, h3, h4, h5.grownS hg (by omega)⟩
/-- an open stream over what was written: inp; out: what came out -/
def SOk (w : World) (g b0 : Nat) (K L : Cd) (p : Int) (inp out : List UInt8) : Prop := ∃ rest done, StrO w g b0 K L p rest done ∧ StInv K L p inp rest done out ∧ rest.length ≤ 3
theorem SOk.stay {w w' : World} {g b0 : Nat} {K L : Cd} {p : Int} {inp out : List UInt8} (h : SOk w g b0 K L p inp out) (hb : Below w.heap.size w w') : SOk w' g b0 K L p inp out := by
  obtain ⟨rest, done, h1, h2, h3⟩ := h; exact ⟨rest, done, h1.stay hb, h2, h3⟩
theorem SOk.other {w w' : World} {g g' b0 : Nat} {K L : Cd} {p : Int} {inp out : List UInt8} (h : SOk w g b0 K L p inp out) (hg : w.grownBy w' (some g')) (hl : g' < b0) (hd : 0 < g') : SOk w' g b0 K L p inp out := by
  obtain ⟨rest, done, h1, h2, h3⟩ := h; exact ⟨rest, done, h1.other hg hl hd, h2, h3⟩
theorem SOk.lt {w : World} {g b0 : Nat} {K L : Cd} {p : Int} {inp out : List UInt8} (h : SOk w g b0 K L p inp out) : g < w.heap.size := by
  obtain ⟨rest, done, h1, h2, h3⟩ := h; exact h1.lt
theorem SOk.out_len {w : World} {g b0 : Nat} {K L : Cd} {p : Int} {inp out : List UInt8} (h : SOk w g b0 K L p inp out) : out.length ≤ 320 * inp.length := by
  obtain ⟨rest, done, h1, h2, h3⟩ := h
  have := convK_len h2.2.2.2
  rw [List.length_take] at this
  omega
/-- what Write hands back -/
def WrR (w w' : World) (g b0 : Nat) (K L : Cd) (p : Int) (inp out b t : List UInt8) (fe fv : Int) : Prop :=
  w.grownBy w' (some g) ∧ ((fe = 0 ∧ fv = 0 ∧ SOk w' g b0 K L p (inp ++ b) (out ++ t)) ∨ (fe ≠ 0 ∧ t = [] ∧ p = 1 ∧ StrC w' g ∧ ∃ i : Nat, fv = (i : Int) ∧ ∀ u, convK K L p (inp ++ b ++ u) = .error (fe, i)))
theorem write_law {w : World} {g b0 : Nat} {K L : Cd} {p : Int} {inp out : List UInt8} (h : SOk w g b0 K L p inp out) (b : List UInt8) (hl : inp.length + b.length ≤ 10000) :
    Calls Tryd.prog 19 #[.pointer (some ⟨g, 0, none⟩), .string ⟨b.toArray⟩] w fun e w' => ∃ (t : List UInt8) (fe fv : Int), e = .returned (.tuple #[.string ⟨t.toArray⟩, .agg #[.int .i64 fe, .int .i64 fv]]) ∧ WrR w w' g b0 K L p inp out b t fe fv := by
  obtain ⟨rest, done, ⟨k1, A1, n1, c1, q1, k2, A2, n2, c2, q2, h1, rfl, rfl, h4, h5⟩, hI, h3⟩ := h
  have hlen := stInv_len hI
  refine (write_any g done rest b k1 A1 n1 c1 q1 k2 A2 n2 c2 q2 p w h5 h1 (by omega)).mono fun e w' hN => ?_
  obtain ⟨n, hn⟩ : ∃ n, certK (cdOf k1 q1) (rest ++ b).length (rest ++ b) = n := ⟨_, rfl⟩
  rw [hn] at hN
  obtain ⟨he, hg, hA, hB⟩ := hN
  refine ⟨_, _, _, he, hg, ?_⟩
  rcases eT_iT (K := cdOf k1 q1) (L := cdOf k2 q2) (p := p) (s := (rest ++ b).take n) with ⟨e1, e2, e3⟩ | ⟨e1, e2, e3, e4⟩
  · left
    refine ⟨e1, by rw [if_pos e1], (rest ++ b).drop n, done + n, ⟨k1, A1, n1, c1, q1, k2, A2, n2, c2, q2, h1.grown hg, rfl, rfl, h4, hA e1⟩, stInv_write hI b _ n hn e3, ?_⟩
    rw [← hn]; exact certK_rest _ _ (Nat.le_refl _)
  · right
    obtain ⟨d, _, hB⟩ := hB e1
    exact ⟨e1, e3, convK_err e4, ⟨_, hB, rfl⟩, done + iT _, by rw [if_neg e1], fun u => stInv_fault hI b _ _ n hn e4 u⟩
/-- what Close hands back -/
def ClR (w w' : World) (g : Nat) (K L : Cd) (p : Int) (inp out t : List UInt8) (fe fv : Int) : Prop :=
  w.grownBy w' (some g) ∧ StrC w' g ∧ ((fe = 0 ∧ fv = 0 ∧ convK K L p inp = .ok (out ++ t)) ∨ (fe ≠ 0 ∧ t = [] ∧ p = 1 ∧ ∃ i : Nat, fv = (i : Int) ∧ convK K L p inp = .error (fe, i)))
theorem close_law {w : World} {g b0 : Nat} {K L : Cd} {p : Int} {inp out : List UInt8} (h : SOk w g b0 K L p inp out) (hl : inp.length ≤ 10000) :
    Calls Tryd.prog 20 #[.pointer (some ⟨g, 0, none⟩)] w fun e w' => ∃ (t : List UInt8) (fe fv : Int), e = .returned (.tuple #[.string ⟨t.toArray⟩, .agg #[.int .i64 fe, .int .i64 fv]]) ∧ ClR w w' g K L p inp out t fe fv := by
  obtain ⟨rest, done, ⟨k1, A1, n1, c1, q1, k2, A2, n2, c2, q2, h1, rfl, rfl, h4, h5⟩, hI, h3⟩ := h
  have hlen := stInv_len hI
  refine (close_any g done rest k1 A1 n1 c1 q1 k2 A2 n2 c2 q2 p w h5 h1 (by omega)).mono fun e w' hN => ?_
  obtain ⟨he, hg, d, hB⟩ := hN
  refine ⟨_, _, _, he, hg, ⟨_, hB, rfl⟩, ?_⟩
  have hc := stInv_close hI
  rcases eT_iT (K := cdOf k1 q1) (L := cdOf k2 q2) (p := p) (s := rest) with ⟨e1, e2, e3⟩ | ⟨e1, e2, e3, e4⟩
  · left
    refine ⟨e1, by rw [if_pos e1], ?_⟩
    rw [hc]
    generalize hr : convK (cdOf k1 q1) (cdOf k2 q2) p rest = r at e3 ⊢
    rw [e3]; rfl
  · right
    refine ⟨e1, e3, convK_err e4, done + iT _, by rw [if_neg e1], ?_⟩
    rw [hc]
    generalize hr : convK (cdOf k1 q1) (cdOf k2 q2) p rest = r at e4 ⊢
    rw [e4]; rfl
theorem pending_law {w : World} {g b0 : Nat} {K L : Cd} {p : Int} {inp out : List UInt8} (h : SOk w g b0 K L p inp out) :
    Calls Tryd.prog 21 #[.pointer (some ⟨g, 0, none⟩)] w fun e w' => (∃ (rest : List UInt8) (done : Nat), e = .returned (.string ⟨rest.toArray⟩) ∧ StInv K L p inp rest done out ∧ rest.length ≤ 3) ∧ w' = w := by
  obtain ⟨rest, done, h1, hI, h3⟩ := h
  obtain ⟨c2, c0⟩ := h1.cells
  exact (pending_open g rest w c2 c0).mono fun e w' ⟨he, hw⟩ => ⟨⟨rest, done, he, hI, h3⟩, hw⟩
/-- New, where there is a stream -/
theorem new_law (k1 : Int) (A1 : Option Addr) (n1 c1 : Nat) (q1 : List Int) (k2 : Int) (A2 : Option Addr) (n2 c2 : Nat) (q2 : List Int) (p : Int) (w : World) (h1 : Reads w w.heap.size 1 A1 n1 (q1.map iv)) (h2 : Reads w w.heap.size 1 A2 n2 (q2.map iv)) (hC1 : CkE k1 q1 0) (hC2 : CkE k2 q2 0) (hp1 : 1 ≤ p) (hp4 : p ≤ 4) (hd : Dig w) :
    Calls Tryd.prog 38 #[.agg #[.int .i64 k1, .slice A1 n1 c1], .agg #[.int .i64 k2, .slice A2 n2 c2], .int .i64 p] w fun x w' => ∃ g : Nat, x = .returned (.tuple #[.pointer (some ⟨g, 0, none⟩), .int .i64 0]) ∧ SOk w' g w.heap.size (cdOf k1 q1) (cdOf k2 q2) p [] [] ∧ Below w.heap.size w w' := by
  refine (new_good k1 A1 n1 c1 q1 k2 A2 n2 c2 q2 p w h1 h2 hC1 hC2 hp1 hp4).mono fun x w' ⟨⟨g, B1, m1, d1, r1, B2, m2, d2, r2, hx, hg, hB, hr1, hr2, hD1, hD2, hE1, hE2, hX1, hX2⟩, hb⟩ => ?_
  have hdl := hd.lt
  exact ⟨g, hx, ⟨[], 0, ⟨k1, B1, m1, d1, r1, k2, B2, m2, d2, r2, ⟨hr1, hr2, hd.below hb, by omega, hB.lt, hD1, hD2, hp1, hp4⟩, hE1, hE2, ⟨hg, hdl, hX1, hX2⟩, hB⟩, stInv_zero _ _ _, by simp⟩, hb⟩

set_option maxRecDepth 100000 in
set_option maxHeartbeats 4000000 in
theorem rnew_good (k1 : Int) (A1 : Option Addr) (n1 c1 : Nat) (q1 : List Int) (k2 : Int) (A2 : Option Addr) (n2 c2 : Nat) (q2 : List Int) (p : Int) (w : World) (h1 : Reads w w.heap.size 1 A1 n1 (q1.map iv)) (h2 : Reads w w.heap.size 1 A2 n2 (q2.map iv)) (hC1 : CkE k1 q1 0) (hC2 : CkE k2 q2 0) (hp1 : 1 ≤ p) (hp4 : p ≤ 4) :
    Calls Tryd.prog 33 #[.agg #[.int .i64 k1, .slice A1 n1 c1], .agg #[.int .i64 k2, .slice A2 n2 c2], .int .i64 p] w fun x w' => (∃ g : Nat, x = .returned (.tuple #[.pointer (some ⟨g, 0, none⟩), .int .i64 0]) ∧ w.heap.size ≤ g ∧ Blk w' g 97 #[.int .i64 k1, .slice A1 n1 c1, .int .i64 k2, .slice A2 n2 c2, .int .i64 p, .bool true, .int .i64 0, .string ⟨([] : List UInt8).toArray⟩]) ∧ Below w.heap.size w w' := by
  have hL : Below w.heap.size w ((w.alloc (.cells #[.int .i64 k1, .slice A1 n1 c1] 26)).alloc (.cells #[.int .i64 k2, .slice A2 n2 c2] 26)) := ((Below.refl _ _).alloc (Nat.le_refl _) _).alloc (by simp) _
  have p1 : Blk ((w.alloc (.cells #[.int .i64 k1, .slice A1 n1 c1] 26)).alloc (.cells #[.int .i64 k2, .slice A2 n2 c2] 26)) w.heap.size 26 #[.int .i64 k1, .slice A1 n1 c1] := (Blk.new w _ _).alloc _
  have p2 : Blk ((w.alloc (.cells #[.int .i64 k1, .slice A1 n1 c1] 26)).alloc (.cells #[.int .i64 k2, .slice A2 n2 c2] 26)) (w.heap.size + 1) 26 #[.int .i64 k2, .slice A2 n2 c2] := by
    have := Blk.new (w.alloc (.cells #[.int .i64 k1, .slice A1 n1 c1] 26)) 26 #[.int .i64 k2, .slice A2 n2 c2]
    simpa using this
  have HL := Lib.hid hL
  have H1 := Lib.hid (h1.stay hL)
  have H2 := Lib.hid (h2.stay hL)
  have P1 := Lib.hid p1
  have P2 := Lib.hid p2
  have HC1 := Lib.hid hC1
  have HC2 := Lib.hid hC2
  have g0 := p1.cell 0
  have g1 := p1.cell 1
  clear hL p1 p2 h1 h2 hC1 hC2
  go_enter Tryd.func33, Tryd.ntmps33
  go_wp2_with fail
  clear g0 g1
  obtain ⟨W, hW⟩ : ∃ W, W = ((w.alloc (.cells #[.int .i64 k1, .slice A1 n1 c1] 26)).alloc (.cells #[.int .i64 k2, .slice A2 n2 c2] 26)) := ⟨_, rfl⟩
  rw [← hW] at HL H1 H2 P1 P2 ⊢
  clear hW
  refine (rcheck_any k1 A1 n1 c1 q1 0 W H1.out HC1.out).mono ?_
  rintro x w1 ⟨rfl, hb1⟩
  replace HL := Lib.hid (HL.out.trans (hb1.mono HL.out.size))
  replace H2 := Lib.hid (H2.out.stay hb1)
  replace P1 := Lib.hid (P1.out.stay hb1)
  replace P2 := Lib.hid (P2.out.stay hb1)
  clear hb1
  have g0 := P2.out.cell 0
  have g1 := P2.out.cell 1
  go_wp2_with fail
  clear g0 g1
  refine (rcheck_any k2 A2 n2 c2 q2 0 w1 H2.out HC2.out).mono ?_
  rintro x w2 ⟨rfl, hb1⟩
  replace HL := Lib.hid (HL.out.trans (hb1.mono HL.out.size))
  replace P1 := Lib.hid (P1.out.stay hb1)
  replace P2 := Lib.hid (P2.out.stay hb1)
  clear hb1
  have g0 := P1.out.cell 0
  have g1 := P1.out.cell 1
  have g2 := P2.out.cell 0
  have g3 := P2.out.cell 1
  have BF := Lib.hid (HL.out.alloc HL.out.size (.cells #[.int .i64 k1, .slice A1 n1 c1, .int .i64 k2, .slice A2 n2 c2, .int .i64 p, .bool true, .int .i64 0, .string ⟨#[]⟩] 97))
  have hle := HL.out.size
  go_wp2
  exact bodyPost_ret (v := .tuple #[.pointer (some ⟨w2.heap.size, 0, none⟩), .int .i64 0]) (by simp [results, Tryd.results33, go_sem]) rfl ⟨⟨w2.heap.size, rfl, hle, Blk.new _ _ _⟩, BF.out⟩
set_option maxRecDepth 100000 in
set_option maxHeartbeats 4000000 in
theorem rnew_bad (k1 : Int) (A1 : Option Addr) (n1 c1 : Nat) (q1 : List Int) (k2 : Int) (A2 : Option Addr) (n2 c2 : Nat) (q2 : List Int) (p e1 e2 : Int) (w : World) (h1 : Reads w w.heap.size 1 A1 n1 (q1.map iv)) (h2 : Reads w w.heap.size 1 A2 n2 (q2.map iv)) (hC1 : CkE k1 q1 e1) (hC2 : CkE k2 q2 e2) (hbad : ¬ (e1 = 0 ∧ e2 = 0 ∧ 1 ≤ p ∧ p ≤ 4)) :
    Calls Tryd.prog 33 #[.agg #[.int .i64 k1, .slice A1 n1 c1], .agg #[.int .i64 k2, .slice A2 n2 c2], .int .i64 p] w fun x w' => x = .returned (.tuple #[.pointer none, .int .i64 (newE e1 e2)]) ∧ Below w.heap.size w w' := by
  have Hbad := Lib.hid hbad
  clear hbad
  have hL : Below w.heap.size w ((w.alloc (.cells #[.int .i64 k1, .slice A1 n1 c1] 26)).alloc (.cells #[.int .i64 k2, .slice A2 n2 c2] 26)) := ((Below.refl _ _).alloc (Nat.le_refl _) _).alloc (by simp) _
  have p1 : Blk ((w.alloc (.cells #[.int .i64 k1, .slice A1 n1 c1] 26)).alloc (.cells #[.int .i64 k2, .slice A2 n2 c2] 26)) w.heap.size 26 #[.int .i64 k1, .slice A1 n1 c1] := (Blk.new w _ _).alloc _
  have p2 : Blk ((w.alloc (.cells #[.int .i64 k1, .slice A1 n1 c1] 26)).alloc (.cells #[.int .i64 k2, .slice A2 n2 c2] 26)) (w.heap.size + 1) 26 #[.int .i64 k2, .slice A2 n2 c2] := by
    have := Blk.new (w.alloc (.cells #[.int .i64 k1, .slice A1 n1 c1] 26)) 26 #[.int .i64 k2, .slice A2 n2 c2]
    simpa using this
  have HL := Lib.hid hL
  have H1 := Lib.hid (h1.stay hL)
  have H2 := Lib.hid (h2.stay hL)
  have P1 := Lib.hid p1
  have P2 := Lib.hid p2
  have HC1 := Lib.hid hC1
  have HC2 := Lib.hid hC2
  have g0 := p1.cell 0
  have g1 := p1.cell 1
  clear hL p1 p2 h1 h2 hC1 hC2
  go_enter Tryd.func33, Tryd.ntmps33
  go_wp2_with fail
  clear g0 g1
  obtain ⟨W, hW⟩ : ∃ W, W = ((w.alloc (.cells #[.int .i64 k1, .slice A1 n1 c1] 26)).alloc (.cells #[.int .i64 k2, .slice A2 n2 c2] 26)) := ⟨_, rfl⟩
  rw [← hW] at HL H1 H2 P1 P2 ⊢
  clear hW
  refine (rcheck_any k1 A1 n1 c1 q1 e1 W H1.out HC1.out).mono ?_
  rintro x w1 ⟨rfl, hb1⟩
  replace HL := Lib.hid (HL.out.trans (hb1.mono HL.out.size))
  replace H2 := Lib.hid (H2.out.stay hb1)
  replace P2 := Lib.hid (P2.out.stay hb1)
  clear hb1
  by_cases d1 : e1 = 0
  rotate_left
  · have d1n : (e1 != 0) = true := bne_iff_ne.2 d1
    have HE := Lib.hid (show newE e1 e2 = 11 by unfold newE; rw [if_neg (by omega)])
    clear d1
    go_wp2
    exact bodyPost_ret (v := .tuple #[.pointer none, .int .i64 11]) (by simp [results, Tryd.results33, go_sem]) rfl ⟨by rw [HE.out], HL.out⟩
  subst d1
  have g0 := P2.out.cell 0
  have g1 := P2.out.cell 1
  go_wp2_with fail
  clear g0 g1
  refine (rcheck_any k2 A2 n2 c2 q2 e2 w1 H2.out HC2.out).mono ?_
  rintro x w2 ⟨rfl, hb1⟩
  replace HL := Lib.hid (HL.out.trans (hb1.mono HL.out.size))
  clear hb1
  by_cases d2 : e2 = 0
  rotate_left
  · have d2n : (e2 != 0) = true := bne_iff_ne.2 d2
    have HE := Lib.hid (show newE 0 e2 = 11 by unfold newE; rw [if_neg (by omega)])
    clear d2
    go_wp2
    exact bodyPost_ret (v := .tuple #[.pointer none, .int .i64 11]) (by simp [results, Tryd.results33, go_sem]) rfl ⟨by rw [HE.out], HL.out⟩
  subst d2
  have HE := Lib.hid (show newE 0 0 = 8 by decide)
  have hpp : p < 1 ∨ (¬ p < 1 ∧ 4 < p) := by
    rcases Int.lt_or_le p 1 with h | h
    · exact Or.inl h
    · rcases Int.lt_or_le 4 p with h2 | h2
      · exact Or.inr ⟨by omega, h2⟩
      · exact absurd ⟨trivial, rfl, h, h2⟩ Hbad.out
  rcases hpp with h | ⟨h, h'⟩
  all_goals
    go_wp2
    exact bodyPost_ret (v := .tuple #[.pointer none, .int .i64 8]) (by simp [results, Tryd.results33, go_sem]) rfl ⟨by rw [HE.out], HL.out⟩
end Go.Proofs.YtbcbmmgfdobdiaaDoor
/- few, join, start, alive, run of the statements about layer 8. -/
namespace Go.Proofs.YtbcbmmgfdobdiaaDoor
open Go.RowKit

theorem sv_at {l : List (List UInt8)} {k : Nat} {u : Value} (h : (l.map sv)[k]? = some u) : ∃ s, l[k]? = some s ∧ u = .string ⟨s.toArray⟩ := by
  rw [List.getElem?_map] at h
  cases hx : l[k]? with
  | none => rw [hx] at h; simp at h
  | some x => rw [hx] at h; simp at h; exact ⟨x, rfl, h.symm⟩
theorem flat_succ {l : List (List UInt8)} {k : Nat} {s : List UInt8} (h : l[k]? = some s) : (l.take (k + 1)).flatten = (l.take k).flatten ++ s := by
  obtain ⟨hk, he⟩ := List.getElem?_eq_some_iff.1 h
  rw [List.take_succ_eq_append_getElem hk, he, List.flatten_append]; simp
theorem flat_le (l : List (List UInt8)) (k : Nat) : (l.take k).flatten.length ≤ l.flatten.length := by
  have h := List.take_append_drop k l
  have : l.flatten = (l.take k).flatten ++ (l.drop k).flatten := by rw [← List.flatten_append, h]
  rw [this, List.length_append]; omega
theorem flat_big (l : List (List UInt8)) (M : Nat) (hl : ∀ s ∈ l, s.length ≤ M) : ∀ k, (l.take k).flatten.length ≤ k * M := by
  intro k
  induction k with
  | zero => simp
  | succ k ih =>
    have hm : (k + 1) * M = k * M + M := Nat.succ_mul k M
    cases h : l[k]? with
    | none =>
      have hk := List.getElem?_eq_none_iff.1 h
      have : l.take (k + 1) = l.take k := by rw [List.take_of_length_le (by omega), List.take_of_length_le (by omega)]
      rw [this]; omega
    | some s =>
      rw [flat_succ h, List.length_append]
      have := hl s (List.mem_of_getElem? h)
      omega
def few8 (l : List (List UInt8)) (n1 n2 : Nat) : Bool := decide (l.length ≤ 12 ∧ (l.take 20).flatten.length ≤ 60 ∧ n1 ≤ 300 ∧ n2 ≤ 300)
theorem few8_true {l : List (List UInt8)} {n1 n2 : Nat} (h : few8 l n1 n2 = true) : l.length ≤ 12 ∧ l.flatten.length ≤ 60 ∧ n1 ≤ 300 ∧ n2 ≤ 300 := by
  simp only [few8, decide_eq_true_eq] at h
  obtain ⟨h1, h2, h3, h4⟩ := h
  rw [List.take_of_length_le (by omega)] at h2
  exact ⟨h1, h2, h3, h4⟩

set_option maxRecDepth 100000 in
set_option maxHeartbeats 4000000 in
theorem few8_any (k1 : Int) (A1 : Option Addr) (n1 c1 : Nat) (k2 : Int) (A2 : Option Addr) (n2 c2 : Nat) (p : Int) (Al : Option Addr) (nl cl : Nat) (l : List (List UInt8)) (w : World) (hr : Reads w w.heap.size 1 Al nl (l.map sv)) (hl : ∀ s ∈ l, s.length ≤ 140737488355328) :
    Calls Tryd.prog 15 #[.agg #[.int .i64 k1, .slice A1 n1 c1, .int .i64 k2, .slice A2 n2 c2, .int .i64 p], .slice Al nl cl] w fun e w' => e = .returned (.bool (few8 l n1 n2)) ∧ Below w.heap.size w w' := by
  have Hn := Lib.hid (show l.length = nl by have := hr.1; simpa using this)
  have bn := below_new w (.cells #[.int .i64 k1, .slice A1 n1 c1, .int .i64 k2, .slice A2 n2 c2, .int .i64 p] 28)
  have HB := Lib.hid (Blk.new w 28 #[.int .i64 k1, .slice A1 n1 c1, .int .i64 k2, .slice A2 n2 c2, .int .i64 p])
  have HR := Lib.hid (hr.stay bn)
  have HL := Lib.hid bn
  have Hl := Lib.hid hl
  clear bn hr hl
  have g1 := HB.out.cell 1
  have g3 := HB.out.cell 3
  go_enter Tryd.func15, Tryd.ntmps15
  go_wp2_with fail
  obtain ⟨W, hW⟩ : ∃ W, W = w.alloc (.cells #[.int .i64 k1, .slice A1 n1 c1, .int .i64 k2, .slice A2 n2 c2, .int .i64 p] 28) := ⟨_, rfl⟩
  rw [← hW] at HB HR HL g1 g3 ⊢
  clear hW
  go_loopw [5, 6] (fun n i wr => wr = W ∧ ∃ (k : Nat), k ≤ nl ∧ k ≤ 20 ∧ i = .int .i64 (k : Int) ∧ n = .int .i64 ((l.take k).flatten.length : Int)) (fun _ i _ => 20 - (intOf i).toNat)
  case atStart => exact ⟨rfl, 0, by omega, by omega, rfl, by simp⟩
  case round =>
    obtain ⟨rfl, k, hk, hk20, rfl, rfl⟩ := hrel
    by_cases h1 : k < nl
    · by_cases h2 : k < 20
      · obtain ⟨ad, u, rfl, hadl, hu, hcell⟩ := HR.out.at_ h1
        obtain ⟨s, hs, rfl⟩ := sv_at hu
        have hf := flat_succ hs
        have hsl := Hl.out s (List.mem_of_getElem? hs)
        have hbig := flat_big l _ Hl.out k
        have hfl : (l.take (k + 1)).flatten.length = (l.take k).flatten.length + s.length := by rw [hf, List.length_append]
        have Hfl := Lib.hid hfl
        clear hf hu hs hfl
        generalize (l.take k).flatten.length = N at Hfl hbig ⊢
        have h1i : (k : Int) < (nl : Int) := by omega
        have h2i : (k : Int) < 20 := by omega
        go_wp2
        go_roundw
        case rel => exact ⟨trivial, k + 1, by omega, by omega, by go_num, by rw [Hfl.out]; go_num⟩
        case measure => simp [intOf]; omega
      · obtain rfl : k = 20 := by omega
        have h1i : (20 : Int) < (nl : Int) := by omega
        have hb : ¬ (nl : Int) ≤ 12 := by omega
        have He := Lib.hid (show few8 l n1 n2 = false by simp only [few8, decide_eq_false_iff_not]; rw [Hn.out]; omega)
        go_wp2
        go_ret
        exact ⟨by rw [He.out]; rfl, HL.out⟩
    · obtain rfl : k = nl := by omega
      have h1i : ¬ (k : Int) < (k : Int) := by omega
      have Ht := Lib.hid (show few8 l n1 n2 = decide (k ≤ 12 ∧ (l.take k).flatten.length ≤ 60 ∧ n1 ≤ 300 ∧ n2 ≤ 300) by
        unfold few8
        rw [Hn.out]
        by_cases h12 : k ≤ 12
        · rw [List.take_of_length_le (by rw [Hn.out]; omega), List.take_of_length_le (by rw [Hn.out]; omega)]
        · simp [h12])
      generalize (l.take k).flatten.length = N at Ht ⊢
      by_cases a1 : (k : Int) ≤ 12
      · by_cases a2 : (N : Int) ≤ 60
        · by_cases a3 : (n1 : Int) ≤ 300
          · by_cases a4 : (n2 : Int) ≤ 300
            · have He := Lib.hid (show few8 l n1 n2 = true by rw [Ht.out]; simp only [decide_eq_true_eq]; omega)
              go_wp2
              go_ret
              exact ⟨by rw [He.out]; rfl, HL.out⟩
            · have He := Lib.hid (show few8 l n1 n2 = false by rw [Ht.out]; simp only [decide_eq_false_iff_not]; omega)
              go_wp2
              go_ret
              exact ⟨by rw [He.out]; rfl, HL.out⟩
          · have He := Lib.hid (show few8 l n1 n2 = false by rw [Ht.out]; simp only [decide_eq_false_iff_not]; omega)
            go_wp2
            go_ret
            exact ⟨by rw [He.out]; rfl, HL.out⟩
        · have He := Lib.hid (show few8 l n1 n2 = false by rw [Ht.out]; simp only [decide_eq_false_iff_not]; omega)
          go_wp2
          go_ret
          exact ⟨by rw [He.out]; rfl, HL.out⟩
      · have He := Lib.hid (show few8 l n1 n2 = false by rw [Ht.out]; simp only [decide_eq_false_iff_not]; omega)
        go_wp2
        go_ret
        exact ⟨by rw [He.out]; rfl, HL.out⟩

set_option maxRecDepth 100000 in
set_option maxHeartbeats 4000000 in
theorem join_any (Al : Option Addr) (nl cl : Nat) (l : List (List UInt8)) (w : World) (hr : Reads w w.heap.size 1 Al nl (l.map sv)) (hl : l.flatten.length ≤ 10000) (hnl : nl ≤ 10000) :
    Calls Tryd.prog 37 #[.slice Al nl cl] w fun e w' => e = .returned (.string ⟨l.flatten.toArray⟩) ∧ w' = w := by
  have Hn := Lib.hid (show l.length = nl by have := hr.1; simpa using this)
  have HR := Lib.hid hr
  clear hr
  go_enter Tryd.func37, Tryd.ntmps37
  go_wp2_with fail
  go_loopw [3, 4] (fun o i wr => wr = w ∧ ∃ (k : Nat), k ≤ nl ∧ i = .int .i64 (k : Int) ∧ o = .string ⟨(l.take k).flatten.toArray⟩) (fun _ i _ => nl - (intOf i).toNat)
  case atStart => exact ⟨rfl, 0, by omega, rfl, by simp⟩
  case round =>
    obtain ⟨rfl, k, hk, rfl, rfl⟩ := hrel
    by_cases h1 : k < nl
    · obtain ⟨ad, u, rfl, hadl, hu, hcell⟩ := HR.out.at_ h1
      obtain ⟨s, hs, rfl⟩ := sv_at hu
      have Hf := Lib.hid (flat_succ hs)
      have h3 := flat_le l (k + 1)
      rw [Hf.out, List.length_append] at h3
      clear hu hs
      have h1i : (k : Int) < (nl : Int) := by omega
      generalize (l.take k).flatten = X at Hf h3 ⊢
      have hcat : (⟨X.toArray⟩ : ByteArray) ++ ⟨s.toArray⟩ = ⟨(X ++ s).toArray⟩ := ByteArray.mk_append_mk X s
      go_wp2
      go_roundw
      case rel => exact ⟨trivial, k + 1, by omega, by go_num, by rw [Hf.out]⟩
      case measure => simp [intOf]; omega
    · obtain rfl : k = nl := by omega
      have h1i : ¬ (k : Int) < (k : Int) := by omega
      have He := Lib.hid (show (l.take k).flatten = l.flatten by rw [List.take_of_length_le (by rw [Hn.out]; omega)])
      rw [He.out]
      go_wp2
      go_ret
      exact ⟨rfl, rfl⟩

set_option maxRecDepth 100000 in
set_option maxHeartbeats 4000000 in
theorem start_good (k1 : Int) (A1 : Option Addr) (n1 c1 : Nat) (q1 : List Int) (k2 : Int) (A2 : Option Addr) (n2 c2 : Nat) (q2 : List Int) (p : Int) (w : World) (h1 : Reads w w.heap.size 1 A1 n1 (q1.map iv)) (h2 : Reads w w.heap.size 1 A2 n2 (q2.map iv)) (hC1 : CkE k1 q1 0) (hC2 : CkE k2 q2 0) (hp1 : 1 ≤ p) (hp4 : p ≤ 4) (hd : Dig w) :
    Calls Tryd.prog 17 #[.agg #[.int .i64 k1, .slice A1 n1 c1, .int .i64 k2, .slice A2 n2 c2, .int .i64 p]] w fun x w' => ∃ g b0 : Nat, x = .returned (.tuple #[.pointer (some ⟨g, 0, none⟩), .bool true]) ∧ (w.heap.size ≤ b0 ∧ SOk w' g b0 (cdOf k1 q1) (cdOf k2 q2) p [] []) ∧ Below w.heap.size w w' := by
  have bn := below_new w (.cells #[.int .i64 k1, .slice A1 n1 c1, .int .i64 k2, .slice A2 n2 c2, .int .i64 p] 28)
  have HB := Lib.hid (Blk.new w 28 #[.int .i64 k1, .slice A1 n1 c1, .int .i64 k2, .slice A2 n2 c2, .int .i64 p])
  have H1 := Lib.hid (h1.stay bn)
  have H2 := Lib.hid (h2.stay bn)
  have HD := Lib.hid (hd.below bn)
  have HL := Lib.hid bn
  have HC1 := Lib.hid hC1
  have HC2 := Lib.hid hC2
  clear bn h1 h2 hd hC1 hC2
  have g0 := HB.out.cell 0
  have g1 := HB.out.cell 1
  have g2 := HB.out.cell 2
  have g3 := HB.out.cell 3
  have g4 := HB.out.cell 4
  go_enter Tryd.func17, Tryd.ntmps17
  go_wp2_with fail
  clear g0 g1 g2 g3 g4
  obtain ⟨W, hW⟩ : ∃ W, W = w.alloc (.cells #[.int .i64 k1, .slice A1 n1 c1, .int .i64 k2, .slice A2 n2 c2, .int .i64 p] 28) := ⟨_, rfl⟩
  rw [← hW] at HB H1 H2 HD HL ⊢
  clear hW
  refine (new_law k1 A1 n1 c1 q1 k2 A2 n2 c2 q2 p W H1.out H2.out HC1.out HC2.out hp1 hp4 HD.out).mono ?_
  rintro x w1 ⟨g, rfl, hS, hb1⟩
  have HS := Lib.hid hS
  have HB0 := Lib.hid HL.out.size
  replace HB := Lib.hid (HB.out.stay hb1)
  replace H1 := Lib.hid (H1.out.stay hb1)
  replace H2 := Lib.hid (H2.out.stay hb1)
  replace HL := Lib.hid (HL.out.trans (hb1.mono HL.out.size))
  clear hS hb1
  have g0 := HB.out.cell 0
  have g1 := HB.out.cell 1
  have g2 := HB.out.cell 2
  have g3 := HB.out.cell 3
  have g4 := HB.out.cell 4
  go_wp2_with fail
  clear g0 g1 g2 g3 g4
  refine (rnew_good k1 A1 n1 c1 q1 k2 A2 n2 c2 q2 p w1 H1.out H2.out HC1.out HC2.out hp1 hp4).mono ?_
  rintro x w2 ⟨⟨g', rfl, _, _⟩, hb2⟩
  replace HS := Lib.hid (HS.out.stay hb2)
  replace HL := Lib.hid (HL.out.trans (hb2.mono HL.out.size))
  clear hb2
  go_wp2
  exact bodyPost_ret (v := .tuple #[.pointer (some ⟨g, 0, none⟩), .bool true]) (by simp [results, Tryd.results17, go_sem]) rfl ⟨g, _, rfl, ⟨HB0.out, HS.out⟩, HL.out⟩

set_option maxRecDepth 100000 in
set_option maxHeartbeats 4000000 in
theorem start_bad (k1 : Int) (A1 : Option Addr) (n1 c1 : Nat) (q1 : List Int) (k2 : Int) (A2 : Option Addr) (n2 c2 : Nat) (q2 : List Int) (p e1 e2 : Int) (w : World) (h1 : Reads w w.heap.size 1 A1 n1 (q1.map iv)) (h2 : Reads w w.heap.size 1 A2 n2 (q2.map iv)) (hC1 : CkE k1 q1 e1) (hC2 : CkE k2 q2 e2) (hbad : ¬ (e1 = 0 ∧ e2 = 0 ∧ 1 ≤ p ∧ p ≤ 4)) :
    Calls Tryd.prog 17 #[.agg #[.int .i64 k1, .slice A1 n1 c1, .int .i64 k2, .slice A2 n2 c2, .int .i64 p]] w fun x w' => x = .returned (.tuple #[.pointer none, .bool true]) ∧ Below w.heap.size w w' := by
  have bn := below_new w (.cells #[.int .i64 k1, .slice A1 n1 c1, .int .i64 k2, .slice A2 n2 c2, .int .i64 p] 28)
  have HB := Lib.hid (Blk.new w 28 #[.int .i64 k1, .slice A1 n1 c1, .int .i64 k2, .slice A2 n2 c2, .int .i64 p])
  have H1 := Lib.hid (h1.stay bn)
  have H2 := Lib.hid (h2.stay bn)
  have HL := Lib.hid bn
  have C1 := Lib.hid (show ∀ u, Below (w.alloc (.cells #[.int .i64 k1, .slice A1 n1 c1, .int .i64 k2, .slice A2 n2 c2, .int .i64 p] 28)).heap.size (w.alloc (.cells #[.int .i64 k1, .slice A1 n1 c1, .int .i64 k2, .slice A2 n2 c2, .int .i64 p] 28)) u → Calls Tryd.prog 38 #[.agg #[.int .i64 k1, .slice A1 n1 c1], .agg #[.int .i64 k2, .slice A2 n2 c2], .int .i64 p] u fun x w' => x = .returned (.tuple #[.pointer none, .int .i64 (newE e1 e2)]) ∧ Below u.heap.size u w' from fun u hu => new_bad k1 A1 n1 c1 q1 k2 A2 n2 c2 q2 p e1 e2 u (H1.out.stay hu) (H2.out.stay hu) hC1 hC2 hbad)
  have C2 := Lib.hid (show ∀ u, Below (w.alloc (.cells #[.int .i64 k1, .slice A1 n1 c1, .int .i64 k2, .slice A2 n2 c2, .int .i64 p] 28)).heap.size (w.alloc (.cells #[.int .i64 k1, .slice A1 n1 c1, .int .i64 k2, .slice A2 n2 c2, .int .i64 p] 28)) u → Calls Tryd.prog 33 #[.agg #[.int .i64 k1, .slice A1 n1 c1], .agg #[.int .i64 k2, .slice A2 n2 c2], .int .i64 p] u fun x w' => x = .returned (.tuple #[.pointer none, .int .i64 (newE e1 e2)]) ∧ Below u.heap.size u w' from fun u hu => rnew_bad k1 A1 n1 c1 q1 k2 A2 n2 c2 q2 p e1 e2 u (H1.out.stay hu) (H2.out.stay hu) hC1 hC2 hbad)
  clear bn h1 h2 hC1 hC2 hbad H1 H2
  generalize newE e1 e2 = E at C1 C2
  have g0 := HB.out.cell 0
  have g1 := HB.out.cell 1
  have g2 := HB.out.cell 2
  have g3 := HB.out.cell 3
  have g4 := HB.out.cell 4
  go_enter Tryd.func17, Tryd.ntmps17
  go_wp2_with fail
  clear g0 g1 g2 g3 g4
  obtain ⟨W, hW⟩ : ∃ W, W = (w.alloc (.cells #[.int .i64 k1, .slice A1 n1 c1, .int .i64 k2, .slice A2 n2 c2, .int .i64 p] 28)) := ⟨_, rfl⟩
  rw [← hW] at HB HL C1 C2 ⊢
  clear hW
  refine (C1.out W (Below.refl _ _)).mono ?_
  rintro x w1 ⟨rfl, hb1⟩
  have HB1 := Lib.hid hb1
  replace HB := Lib.hid (HB.out.stay hb1)
  replace HL := Lib.hid (HL.out.trans (hb1.mono HL.out.size))
  clear hb1
  have g0 := HB.out.cell 0
  have g1 := HB.out.cell 1
  have g2 := HB.out.cell 2
  have g3 := HB.out.cell 3
  have g4 := HB.out.cell 4
  go_wp2_with fail
  clear g0 g1 g2 g3 g4
  refine (C2.out w1 HB1.out).mono ?_
  rintro x w2 ⟨rfl, hb2⟩
  replace HL := Lib.hid (HL.out.trans (hb2.mono HL.out.size))
  clear hb2
  go_wp2
  exact bodyPost_ret (v := .tuple #[.pointer none, .bool true]) (by simp [results, Tryd.results17, go_sem]) rfl ⟨rfl, HL.out⟩
end Go.Proofs.YtbcbmmgfdobdiaaDoor
/- alive, run of the statements about layer 8. -/
namespace Go.Proofs.YtbcbmmgfdobdiaaDoor
open Go.RowKit

theorem write_o {w : World} {g b0 : Nat} {K L : Cd} {p : Int} {rest : List UInt8} {done : Nat} (h : StrO w g b0 K L p rest done) (b : List UInt8) (hl : rest.length + b.length + done ≤ 100000) (R o : List UInt8) (n : Nat) (hR : rest ++ b = R) (hn : certK K R.length R = n) (ho : convK K L p (R.take n) = .ok o) :
    Calls Tryd.prog 19 #[.pointer (some ⟨g, 0, none⟩), .string ⟨b.toArray⟩] w fun e w' => e = .returned (.tuple #[.string ⟨o.toArray⟩, .agg #[.int .i64 0, .int .i64 0]]) ∧ StrO w' g b0 K L p (R.drop n) (done + n) ∧ w.grownBy w' (some g) := by
  obtain ⟨k1, A1, n1, c1, q1, k2, A2, n2, c2, q2, h1, rfl, rfl, h4, h5⟩ := h
  refine (write_any g done rest b k1 A1 n1 c1 q1 k2 A2 n2 c2 q2 p w h5 h1 hl).mono fun e w' hN => ?_
  rw [hR, hn, ho] at hN
  obtain ⟨he, hg, hA, _⟩ := hN
  exact ⟨by rw [he]; rfl, ⟨k1, A1, n1, c1, q1, k2, A2, n2, c2, q2, h1.grown hg, rfl, rfl, h4, hA rfl⟩, hg⟩
theorem ex81a : certK (cdOf 1 []) 2 [226, 130] = 0 := by kernel_rfl
theorem ex82a : convK (cdOf 1 []) (cdOf 1 []) 2 [] = .ok [] := by kernel_rfl
theorem ex83a : certK (cdOf 1 []) 3 [226, 130, 172] = 3 := by kernel_rfl
theorem ex84a : convK (cdOf 1 []) (cdOf 1 []) 2 [226, 130, 172] = .ok [226, 130, 172] := by kernel_rfl

set_option maxRecDepth 100000 in
set_option maxHeartbeats 4000000 in
theorem alive_any (w : World) (hd : Dig w) : Calls Tryd.prog 16 #[] w fun e w' => e = .returned (.bool true) ∧ Below w.heap.size w w' := by
  have bn := below_new w (.cells #[.int .i64 1, .slice none 0 0] 26)
  have HB := Lib.hid (Blk.new w 26 #[.int .i64 1, .slice none 0 0])
  have HD := Lib.hid (hd.below bn)
  have HL := Lib.hid bn
  clear bn hd
  have g0 := HB.out.cell 0
  have g1 := HB.out.cell 1
  go_enter Tryd.func16, Tryd.ntmps16
  go_wp2_with fail
  clear g0 g1
  obtain ⟨W, hW⟩ : ∃ W, W = w.alloc (.cells #[.int .i64 1, .slice none 0 0] 26) := ⟨_, rfl⟩
  rw [← hW] at HB HD HL ⊢
  clear hW
  refine (new_law 1 none 0 0 [] 1 none 0 0 [] 2 W Reads.none_ Reads.none_ (Or.inl ⟨by decide, rfl⟩) (Or.inl ⟨by decide, rfl⟩) (by decide) (by decide) HD.out).mono ?_
  rintro x w1 ⟨g, rfl, ⟨rest, done, hS, hI, _⟩, hb1⟩
  obtain ⟨_, hr, hs, _⟩ := hI
  have hd0 := hs.le
  simp at hd0 hr
  subst hd0 hr
  have HS := Lib.hid hS
  have HgB := Lib.hid (show W.heap.size ≤ g by obtain ⟨_, _, _, _, _, _, _, _, _, _, _, _, _, h4, _⟩ := hS; exact h4.1)
  have HLw := Lib.hid (show w.heap.size ≤ g by have := HgB.out; have := HL.out.size; omega)
  replace HL := Lib.hid (HL.out.trans (hb1.mono HL.out.size))
  clear hS hb1 hs
  go_wp2_with fail
  refine (write_o HS.out [226, 130] (by simp) [226, 130] [] 0 rfl ex81a ex82a).mono ?_
  rintro x w2 ⟨rfl, hS2, hg2⟩
  have hb2 : Below w.heap.size w1 w2 := below_of_grown hg2 HLw.out HL.out.size
  replace HL := Lib.hid (HL.out.trans hb2)
  have bn := below_new w2 (.cells #[.int .i64 0, .int .i64 0] 37)
  have HF1 := Lib.hid (Blk.new w2 37 #[.int .i64 0, .int .i64 0])
  have HS2 := Lib.hid (hS2.stay bn)
  have HLn := Lib.hid (HL.out.trans (bn.mono HL.out.size))
  have HgN := Lib.hid (show g < w2.heap.size from hS2.lt)
  clear hb2 hS2 hg2 bn
  go_wp2_with fail
  obtain ⟨W2, hW2⟩ : ∃ W, W = w2.alloc (.cells #[.int .i64 0, .int .i64 0] 37) := ⟨_, rfl⟩
  rw [← hW2] at HF1 HS2 HLn ⊢
  clear hW2
  obtain ⟨c2, c0⟩ := HS2.out.cells
  refine (pending_open g [226, 130] W2 c2 c0).mono ?_
  rintro x w3 ⟨rfl, rfl⟩
  clear c2 c0
  go_wp2_with fail
  refine (write_o HS2.out [172] (by simp) [226, 130, 172] [226, 130, 172] 3 rfl ex83a ex84a).mono ?_
  rintro x w4 ⟨rfl, hS4, hg4⟩
  have hb4 : Below w.heap.size w3 w4 := below_of_grown hg4 HLw.out HLn.out.size
  have hF4 := HF1.out.grownS hg4 (by have := HgN.out; omega)
  have bn := below_new w4 (.cells #[.int .i64 0, .int .i64 0] 37)
  have HLf := Lib.hid ((HLn.out.trans hb4).alloc (Nat.le_trans HLn.out.size hb4.size) (.cells #[.int .i64 0, .int .i64 0] 37))
  have hF5 := hF4.stay bn
  have m0 := hF5.cell 0
  have m1 := hF5.cell 1
  have l0 := (Blk.new w4 37 #[.int .i64 0, .int .i64 0]).cell 0
  have l1 := (Blk.new w4 37 #[.int .i64 0, .int .i64 0]).cell 1
  clear hb4 hS4 hg4 hF4 bn hF5
  go_wp2
  go_ret
  exact ⟨rfl, HLf.out⟩
end Go.Proofs.YtbcbmmgfdobdiaaDoor
/- run of the statements about layer 8. -/
namespace Go.Proofs.YtbcbmmgfdobdiaaDoor
open Go.RowKit

/-- what run hands back over the whole input -/
def RunOk (K L : Cd) (p : Int) (tot a : List UInt8) (fe fv : Int) : Prop :=
  (fe = 0 ∧ fv = 0 ∧ convK K L p tot = .ok a) ∨ (fe ≠ 0 ∧ p = 1 ∧ (∃ i : Nat, fv = (i : Int) ∧ convK K L p tot = .error (fe, i)) ∧ ∃ d, CutK K tot d ∧ convK K L p (tot.take d) = .ok a)
theorem flat_split (l : List (List UInt8)) (k : Nat) : l.flatten = (l.take k).flatten ++ (l.drop k).flatten := by rw [← List.flatten_append, List.take_append_drop]

set_option maxRecDepth 100000 in
set_option maxHeartbeats 4000000 in
theorem run_any (g b0 : Nat) (K L : Cd) (p : Int) (Al : Option Addr) (nl cl : Nat) (l : List (List UInt8)) (w : World) (hS : SOk w g b0 K L p [] []) (hr : ∀ u, w.grownBy u (some g) → Reads u u.heap.size 1 Al nl (l.map sv)) (hl : l.flatten.length ≤ 60) (hnl : nl ≤ 60) :
    Calls Tryd.prog 18 #[.pointer (some ⟨g, 0, none⟩), .slice Al nl cl] w fun e w' => ∃ (a : List UInt8) (fe fv : Int), e = .returned (.tuple #[.string ⟨a.toArray⟩, .agg #[.int .i64 fe, .int .i64 fv]]) ∧ (w.grownBy w' (some g) ∧ StrC w' g ∧ RunOk K L p l.flatten a fe fv ∧ a.length ≤ 19200) := by
  have hgl := hS.lt
  have hneR : w.heap.size ≠ g := by omega
  have Hn := Lib.hid (show l.length = nl by have := (hr w (grownS_refl w g)).1; simpa using this)
  have Hr := Lib.hid hr
  have bn := below_new w (.cells #[.int .i64 0, .int .i64 0] 37)
  have HS0 := Lib.hid (hS.stay bn)
  have HG0 := Lib.hid (grown_of_below bn (some g))
  have HF0 := Lib.hid (Blk.new w 37 #[.int .i64 0, .int .i64 0])
  clear bn hS hr
  go_enter Tryd.func18, Tryd.ntmps18
  go_wp2_with fail
  go_loopw [6, 7] (fun o i wr => ∃ (k : Nat) (out : List UInt8), k ≤ nl ∧ i = .int .i64 (k : Int) ∧ o = .string ⟨out.toArray⟩ ∧ Hid (SOk wr g b0 K L p (l.take k).flatten out) ∧ Hid (Blk wr w.heap.size 37 #[.int .i64 0, .int .i64 0]) ∧ Hid (w.grownBy wr (some g))) (fun _ i _ => nl - (intOf i).toNat)
  case atStart => exact ⟨0, [], by omega, rfl, rfl, by simpa using HS0, HF0, HG0⟩
  case round =>
    obtain ⟨k, out, hk, rfl, rfl, HS, HF, HG⟩ := hrel
    have hfk := flat_le l k
    have hol : out.length ≤ 19200 := by have := HS.out.out_len; omega
    by_cases h1 : k < nl
    · obtain ⟨ad, u, rfl, hadl, hu, hcell⟩ := (Hr.out wr HG.out).at_ h1
      obtain ⟨s, hs, rfl⟩ := sv_at hu
      have Hf := Lib.hid (flat_succ hs)
      have hf1 := flat_le l (k + 1)
      rw [Hf.out, List.length_append] at hf1
      have Hsp := Lib.hid (flat_split l (k + 1))
      rw [Hf.out] at Hsp
      clear hu hs
      have h1i : (k : Int) < (nl : Int) := by omega
      go_wp2_with fail
      refine (write_law HS.out s (by omega)).mono ?_
      rintro e w5 ⟨t, fe, fv, rfl, hgw, hcase⟩
      have HW := Lib.hid hcase
      have hgl2 := HS.out.lt
      have HgW := Lib.hid (grown_trans HG.out hgw)
      have hF5 := HF.out.grownS hgw hneR
      have bn5 := below_new w5 (.cells #[.int .i64 fe, .int .i64 fv] 37)
      have HF5 := Lib.hid (hF5.stay bn5)
      have HN := Lib.hid (Blk.new w5 37 #[.int .i64 fe, .int .i64 fv])
      have HB5 := Lib.hid bn5
      have HG5 := Lib.hid (grown_alloc HgW.out (.cells #[.int .i64 fe, .int .i64 fv] 37))
      have hlt5 : w.heap.size < w5.heap.size := hF5.lt
      clear hcase hgw hF5 bn5
      have m0 := HN.out.cell 0
      have m1 := HN.out.cell 1
      rcases HW.out with ⟨rfl, rfl, hS5⟩ | ⟨hfe, rfl, rfl, hC5, i, rfl, herr⟩
      · have hS6 := hS5.stay HB5.out
        have hol2 := hS6.out_len
        rw [List.length_append, List.length_append] at hol2
        have hcat : (⟨out.toArray⟩ : ByteArray) ++ ⟨t.toArray⟩ = ⟨(out ++ t).toArray⟩ := ByteArray.mk_append_mk out t
        have HS6 := Lib.hid (show SOk (w5.alloc (.cells #[.int .i64 0, .int .i64 0] 37)) g b0 K L p (l.take (k + 1)).flatten (out ++ t) by rw [Hf.out]; exact hS6)
        clear hS5 hS6 HW
        go_wp2
        go_roundw
        case rel => exact ⟨k + 1, out ++ t, by omega, by go_num, rfl, HS6, HF5, HG5⟩
        case measure => simp [intOf]; omega
      · have hfn : (fe != 0) = true := bne_iff_ne.2 hfe
        have HR := Lib.hid (show RunOk K L 1 l.flatten out fe (i : Int) from Or.inr ⟨hfe, rfl, ⟨i, rfl, by rw [Hsp.out]; exact herr _⟩, by
          obtain ⟨rest, done, _, hI, _⟩ := HS.out
          have := stInv_cut hI (s ++ (l.drop (k + 1)).flatten)
          rw [← List.append_assoc, ← Hsp.out] at this
          exact ⟨done, this⟩⟩)
        have HC := Lib.hid (hC5.stay HB5.out)
        clear herr hC5 HW hfe
        go_wp2_with fail
        clear m0 m1
        obtain ⟨V, hV⟩ : ∃ V, V = w5.alloc (.cells #[.int .i64 fe, .int .i64 (i : Int)] 37) := ⟨_, rfl⟩
        rw [← hV] at HF5 HN HB5 HG5 HC ⊢
        clear hV
        have K2 := Lib.hid (show ∀ u, Blk u w5.heap.size 37 #[.int .i64 fe, .int .i64 (i : Int)] → u.cell? ⟨w5.heap.size, 0, none⟩ = some (.int .i64 fe) ∧ u.cell? ⟨w5.heap.size, 1, none⟩ = some (.int .i64 (i : Int)) from fun u h => ⟨h.cell 0, h.cell 1⟩)
        have HNd := Lib.hid (show Blk V.drew w5.heap.size 37 #[.int .i64 fe, .int .i64 (i : Int)] from HN.out)
        have hneN2 : Hid (w5.heap.size ≠ w.heap.size) := Lib.hid (by omega)
        have z0 : V.cell? ⟨w.heap.size, 0, none⟩ = some (.int .i64 0) := HF5.out.cell 0
        have z1 : V.cell? ⟨w.heap.size, 1, none⟩ = some (.int .i64 0) := HF5.out.cell 1
        have f0 : V.frozen? ⟨w.heap.size, 0, none⟩ = false := HF5.out.frozen 0
        have f1 : V.frozen? ⟨w.heap.size, 1, none⟩ = false := HF5.out.frozen 1
        go_region_held3 (fun u => u.cell? ⟨w5.heap.size, 0, none⟩ = some (.int .i64 fe) ∧ u.cell? ⟨w5.heap.size, 1, none⟩ = some (.int .i64 (i : Int))) (first | exact K2.out _ HNd.out | exact K2.out _ ((HNd.out.far (p := ⟨w.heap.size, 0, none⟩) hneN2.out _).far (p := ⟨w.heap.size, 1, none⟩) hneN2.out _)) (first | (go_at_call 43; fail))
        obtain ⟨Z, hZ⟩ : ∃ Z, Z = ((V.setCell ⟨w.heap.size, 0, none⟩ (.int .i64 fe)).setCell ⟨w.heap.size, 1, none⟩ (.int .i64 (i : Int))).drew := ⟨_, rfl⟩
        have hFz : Blk Z w.heap.size 37 #[.int .i64 fe, .int .i64 (i : Int)] := by rw [hZ]; exact Blk.drew ((HF5.out.set_ 0 (.int .i64 fe)).set_ 1 (.int .i64 (i : Int)))
        have HZg := Lib.hid (show w.grownBy Z (some g) by rw [hZ]; exact grown_drew (grown_setCell (grown_setCell HG5.out (.inr (Nat.le_refl _)) _) (.inr (Nat.le_refl _)) _))
        have HZf := Lib.hid (show ∀ (b : Nat) (t : TypeId) (cs : Array Value), b ≠ w.heap.size → Blk V b t cs → Blk Z b t cs from fun b t cs hb h => by rw [hZ]; exact Blk.drew (Blk.far (Blk.far h hb _) hb _))
        have d0 := hFz.cell 0
        have d1 := hFz.cell 1
        clear z0 z1 f0 f1 hFz
        try rw [← hZ]
        clear hZ
        have HCz := Lib.hid (show StrC Z g by obtain ⟨cs, hc1, hc2⟩ := HC.out; exact ⟨cs, HZf.out _ _ _ (by omega) hc1, hc2⟩)
        go_wp2
        exact bodyPost_ret (v := .tuple #[.string ⟨out.toArray⟩, .agg #[.int .i64 fe, .int .i64 (i : Int)]]) (by simp [results, Tryd.results18, go_sem] at d0 d1 ⊢; simp [d0, d1]) rfl ⟨out, fe, (i : Int), rfl, HZg.out, HCz.out, HR.out, hol⟩
    · obtain rfl : k = nl := by omega
      have h1i : ¬ (k : Int) < (k : Int) := by omega
      have Ht := Lib.hid (show (l.take k).flatten = l.flatten by rw [List.take_of_length_le (by rw [Hn.out]; omega)])
      rw [Ht.out] at HS
      go_wp2_with fail
      refine (close_law HS.out (by omega)).mono ?_
      rintro e w5 ⟨t, fe, fv, rfl, hgw, hC5, hcase⟩
      have HgW := Lib.hid (grown_trans HG.out hgw)
      have hF5 := HF.out.grownS hgw hneR
      have hlt5 : w.heap.size < w5.heap.size := hF5.lt
      have bn5 := below_new w5 (.cells #[.int .i64 fe, .int .i64 fv] 37)
      have HF5 := Lib.hid (hF5.stay bn5)
      have HN := Lib.hid (Blk.new w5 37 #[.int .i64 fe, .int .i64 fv])
      have HB5 := Lib.hid bn5
      have HG5 := Lib.hid (grown_alloc HgW.out (.cells #[.int .i64 fe, .int .i64 fv] 37))
      have HC := Lib.hid (hC5.stay bn5)
      have htl : (out ++ t).length ≤ 19200 := by
        rcases hcase with ⟨_, _, h3⟩ | ⟨_, h3, _⟩
        · have := convK_len h3; omega
        · rw [h3, List.append_nil]; exact hol
      have HR := Lib.hid (show RunOk K L p l.flatten (out ++ t) fe fv by
        rcases hcase with ⟨h1, h2, h3⟩ | ⟨h1, h2, h3, i, h4, h5⟩
        · exact Or.inl ⟨h1, h2, h3⟩
        · refine Or.inr ⟨h1, h3, ⟨i, h4, h5⟩, ?_⟩
          obtain ⟨rest, done, _, hI, _⟩ := HS.out
          have := stInv_cut hI []
          rw [List.append_nil] at this
          rw [h2, List.append_nil]
          exact ⟨done, this⟩)
      have htl2 : out.length + t.length ≤ 19200 := by rw [List.length_append] at htl; exact htl
      have hcat : (⟨out.toArray⟩ : ByteArray) ++ ⟨t.toArray⟩ = ⟨(out ++ t).toArray⟩ := ByteArray.mk_append_mk out t
      have hA : ∀ u : World, (Op.stringOp .add ⟨out.toArray⟩ ⟨t.toArray⟩).run Tryd.prog u = .ok (.string ⟨(out ++ t).toArray⟩) u := fun u => by rw [run_string_add_sum u _ _ (by simp [ByteArray.size]; omega), hcat]
      clear hcase hgw hF5 bn5 hC5
      go_wp2_with fail
      obtain ⟨V, hV⟩ : ∃ V, V = w5.alloc (.cells #[.int .i64 fe, .int .i64 fv] 37) := ⟨_, rfl⟩
      rw [← hV] at HF5 HN HB5 HG5 HC ⊢
      clear hV
      have K2 := Lib.hid (show ∀ u, Blk u w5.heap.size 37 #[.int .i64 fe, .int .i64 fv] → u.cell? ⟨w5.heap.size, 0, none⟩ = some (.int .i64 fe) ∧ u.cell? ⟨w5.heap.size, 1, none⟩ = some (.int .i64 fv) from fun u h => ⟨h.cell 0, h.cell 1⟩)
      have HNd := Lib.hid (show Blk V.drew w5.heap.size 37 #[.int .i64 fe, .int .i64 fv] from HN.out)
      have hneN2 : Hid (w5.heap.size ≠ w.heap.size) := Lib.hid (by omega)
      have z0 : V.cell? ⟨w.heap.size, 0, none⟩ = some (.int .i64 0) := HF5.out.cell 0
      have z1 : V.cell? ⟨w.heap.size, 1, none⟩ = some (.int .i64 0) := HF5.out.cell 1
      have f0 : V.frozen? ⟨w.heap.size, 0, none⟩ = false := HF5.out.frozen 0
      have f1 : V.frozen? ⟨w.heap.size, 1, none⟩ = false := HF5.out.frozen 1
      go_region_held3 (fun u => u.cell? ⟨w5.heap.size, 0, none⟩ = some (.int .i64 fe) ∧ u.cell? ⟨w5.heap.size, 1, none⟩ = some (.int .i64 fv)) (first | exact K2.out _ HNd.out | exact K2.out _ ((HNd.out.far (p := ⟨w.heap.size, 0, none⟩) hneN2.out _).far (p := ⟨w.heap.size, 1, none⟩) hneN2.out _)) (first | (go_at_call 43; fail))
      obtain ⟨Z, hZ⟩ : ∃ Z, Z = ((V.setCell ⟨w.heap.size, 0, none⟩ (.int .i64 fe)).setCell ⟨w.heap.size, 1, none⟩ (.int .i64 fv)).drew := ⟨_, rfl⟩
      have hFz : Blk Z w.heap.size 37 #[.int .i64 fe, .int .i64 fv] := by rw [hZ]; exact Blk.drew ((HF5.out.set_ 0 (.int .i64 fe)).set_ 1 (.int .i64 fv))
      have HZg := Lib.hid (show w.grownBy Z (some g) by rw [hZ]; exact grown_drew (grown_setCell (grown_setCell HG5.out (.inr (Nat.le_refl _)) _) (.inr (Nat.le_refl _)) _))
      have HZf := Lib.hid (show ∀ (b : Nat) (t : TypeId) (cs : Array Value), b ≠ w.heap.size → Blk V b t cs → Blk Z b t cs from fun b t cs hb h => by rw [hZ]; exact Blk.drew (Blk.far (Blk.far h hb _) hb _))
      have d0 := hFz.cell 0
      have d1 := hFz.cell 1
      clear z0 z1 f0 f1 hFz
      try rw [← hZ]
      clear hZ
      have HCz := Lib.hid (show StrC Z g by obtain ⟨cs, hc1, hc2⟩ := HC.out; exact ⟨cs, HZf.out _ _ _ (by omega) hc1, hc2⟩)
      go_wp2
      exact bodyPost_ret (v := .tuple #[.string ⟨(out ++ t).toArray⟩, .agg #[.int .i64 fe, .int .i64 fv]]) (by simp [results, Tryd.results18, go_sem] at d0 d1 ⊢; simp [d0, d1]) rfl ⟨out ++ t, fe, fv, rfl, HZg.out, HCz.out, HR.out, htl⟩
end Go.Proofs.YtbcbmmgfdobdiaaDoor
