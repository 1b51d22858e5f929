/- image.ReadPool. -/
import Derived.Test.YthpngcfggnhdjaaPlC
namespace Go.Proofs.Ythpngcfggnhdjaa
open Go.RowKit Go.Proofs.Img

theorem call44 (caps : Array Value) (w : World) : (callFunc 44 caps).run Try.prog w = .ok (.enter 44 caps) w := by
  simp [go_sem]
theorem newBl (w : World) (o : Obj) : Below w.heap.size w (w.alloc o) := (Below.refl _ _).alloc (Nat.le_refl _) _
theorem stayBl {w w' : World} {g t : Nat} {cs : Array Value} (h : Blk w g t cs) (hb : Below w.heap.size w w') : Blk w' g t cs := h.below hb h.lt
/-- three nil slices in a block, written as three values -/
def RPost (p : Pl) (e : Int) (w : World) (x : Ending) (w' : World) : Prop :=
  ∃ A0 c0 A1 c1 A2 c2, x = .returned (.tuple #[.agg #[.slice A0 p.codes.length c0, .slice A1 p.starts.length c1, .slice A2 p.lengths.length c2], .int .i64 e]) ∧ Reads w' w'.heap.size 1 A0 p.codes.length (p.codes.map iv) ∧ Reads w' w'.heap.size 1 A1 p.starts.length (p.starts.map iv) ∧
    Reads w' w'.heap.size 1 A2 p.lengths.length (p.lengths.map iv) ∧ Below w.heap.size w w'
theorem rpost_none {e : Int} {w w' : World} (hb : Below w.heap.size w w') : RPost Pl.none e w (.returned (.tuple #[.agg #[.slice none 0 0, .slice none 0 0, .slice none 0 0], .int .i64 e])) w' :=
  ⟨none, 0, none, 0, none, 0, rfl, Reads.none_, Reads.none_, Reads.none_, hb⟩
theorem own_3 {w : World} {base b n : Nat} {v : Value} {xs : List Value} (h : w.ownsRow base 3 1 v n xs) (hb : b < base) (x y z : Value) : (((w.setCell ⟨b, 0, none⟩ x).setCell ⟨b, 1, none⟩ y).setCell ⟨b, 2, none⟩ z).ownsRow base 3 1 v n xs :=
  ownsRow_setCell_below (ownsRow_setCell_below (ownsRow_setCell_below h hb x) hb y) hb z
theorem bodyP_code {l : List UInt8} {c : Int} (h : bodyP l = .error c) : c ≠ 0 := by
  rcases bodyP_err h with e1 | ⟨a, i, _, e2 | ⟨b, j, _, e3 | ⟨d, k, _, _, rfl⟩⟩⟩
  · exact readL_code e1
  · exact readL_code e2
  · exact readL_code e3
  · omega
set_option maxRecDepth 100000 in
set_option maxHeartbeats 4000000 in
theorem readPool_open (s body : List UInt8) (c : Int) (w : World) (hl : s.length ≤ 1000000) (hO : openR s = (body, c)) (hc : c ≠ 0) :
    Calls Try.prog 24 #[.string ⟨s.toArray⟩] w (RPost Pl.none c w) := by
  have HO := Lib.hid hO
  have hc' : (c != 0) = true := by simp; exact hc
  clear hO hc
  have bW0 := newBl w (.cells #[.slice none 0 0, .slice none 0 0, .slice none 0 0] 42)
  have hR0 := Blk.new w 42 #[.slice none 0 0, .slice none 0 0, .slice none 0 0]
  have hs0 : w.heap.size + 1 = (w.alloc (.cells #[.slice none 0 0, .slice none 0 0, .slice none 0 0] 42)).heap.size := by simp
  have HS0 := Lib.hid hs0
  clear hs0
  go_enter Try.func24, Try.ntmps24
  go_wp2_with fail
  obtain ⟨W0, hW0⟩ : ∃ W, W = w.alloc (.cells #[.slice none 0 0, .slice none 0 0, .slice none 0 0] 42) := ⟨_, rfl⟩
  rw [← hW0] at bW0 hR0 HS0 ⊢
  clear hW0
  refine (open_any s W0 hl).mono ?_
  rintro x w1 ⟨rfl, hb1⟩
  rw [HO.out]
  have hR1 := stayBl hR0 hb1
  have bW1 := bW0.trans (hb1.mono bW0.size)
  clear hR0 bW0 hb1
  have hB2 := Blk.new w1 9 #[.string ⟨body.toArray⟩]
  have hR2 := hR1.alloc (.cells #[.string ⟨body.toArray⟩] 9)
  have bW2 := bW1.alloc bW1.size (.cells #[.string ⟨body.toArray⟩] 9)
  have hR9 := hR2
  clear hR2 hB2
  have hF := hR9
  have z0 := hF.cell 0
  have z1 := hF.cell 1
  have z2 := hF.cell 2
  have f0 := hF.frozen 0
  have f1 := hF.frozen 1
  have f2 := hF.frozen 2
  have hF2 := ((hF.set_ 0 (.slice none 0 0)).set_ 1 (.slice none 0 0)).set_ 2 (.slice none 0 0)
  have d0 := hF2.cell 0
  have d1 := hF2.cell 1
  have d2 := hF2.cell 2
  have bF := (((bW2.setCell (p := ⟨w.heap.size, 0, none⟩) (by simp) (.slice none 0 0)).setCell (p := ⟨w.heap.size, 1, none⟩) (by simp) (.slice none 0 0)).setCell (p := ⟨w.heap.size, 2, none⟩) (by simp) (.slice none 0 0))
  have D := Lib.hid (And.intro d0 (And.intro d1 d2))
  have BF := Lib.hid bF
  clear d0 d1 d2 bF hF2
  go_wp2
  obtain ⟨d0, d1, d2⟩ := D.out
  have bF := BF.out
  clear D BF z0 z1 z2 f0 f1 f2 hF hR9
  generalize World.setCell (World.setCell (World.setCell _ ⟨w.heap.size, 0, none⟩ (.slice none 0 0)) ⟨w.heap.size, 1, none⟩ (.slice none 0 0)) ⟨w.heap.size, 2, none⟩ (.slice none 0 0) = V at d0 d1 d2 bF ⊢
  exact bodyPost_ret (v := .tuple #[.agg #[.slice none 0 0, .slice none 0 0, .slice none 0 0], .int .i64 c]) (by simp [results, Try.results24, go_sem] at d0 d1 d2 ⊢; simp [d0, d1, d2]) rfl (rpost_none bF)
set_option maxRecDepth 100000 in
set_option maxHeartbeats 4000000 in
theorem readPool_body (s body : List UInt8) (c : Int) (w : World) (hl : s.length ≤ 1000000) (hbl : body.length ≤ 1000000) (hO : openR s = (body, 0)) (hB : bodyP body = .error c) :
    Calls Try.prog 24 #[.string ⟨s.toArray⟩] w (RPost Pl.none c w) := by
  have HO := Lib.hid hO
  have hc' : (c != 0) = true := by simp; exact bodyP_code hB
  have HB := Lib.hid hB
  clear hO hB
  have bW0 := newBl w (.cells #[.slice none 0 0, .slice none 0 0, .slice none 0 0] 42)
  have hR0 := Blk.new w 42 #[.slice none 0 0, .slice none 0 0, .slice none 0 0]
  have hs0 : w.heap.size + 1 = (w.alloc (.cells #[.slice none 0 0, .slice none 0 0, .slice none 0 0] 42)).heap.size := by simp
  have HS0 := Lib.hid hs0
  clear hs0
  go_enter Try.func24, Try.ntmps24
  go_wp2_with fail
  obtain ⟨W0, hW0⟩ : ∃ W, W = w.alloc (.cells #[.slice none 0 0, .slice none 0 0, .slice none 0 0] 42) := ⟨_, rfl⟩
  rw [← hW0] at bW0 hR0 HS0 ⊢
  clear hW0
  refine (open_any s W0 hl).mono ?_
  rintro x w1 ⟨rfl, hb1⟩
  rw [HO.out]
  have hR1 := stayBl hR0 hb1
  have bW1 := bW0.trans (hb1.mono bW0.size)
  clear hR0 bW0 hb1
  have hB2 := Blk.new w1 9 #[.string ⟨body.toArray⟩]
  have hR2 := hR1.alloc (.cells #[.string ⟨body.toArray⟩] 9)
  have bW2 := bW1.alloc bW1.size (.cells #[.string ⟨body.toArray⟩] 9)
  have hP3 := Blk.new (w1.alloc (.cells #[.string ⟨body.toArray⟩] 9)) 42 #[.slice none 0 0, .slice none 0 0, .slice none 0 0]
  have hB3 := hB2.alloc (.cells #[.slice none 0 0, .slice none 0 0, .slice none 0 0] 42)
  have hR3 := hR2.alloc (.cells #[.slice none 0 0, .slice none 0 0, .slice none 0 0] 42)
  have bW3 := bW2.alloc bW2.size (.cells #[.slice none 0 0, .slice none 0 0, .slice none 0 0] 42)
  have hz3 : ((w1.alloc (.cells #[.string ⟨body.toArray⟩] 9)).alloc (.cells #[.slice none 0 0, .slice none 0 0, .slice none 0 0] 42)).heap.size = w1.heap.size + 2 := by simp
  have hq3 : (w1.alloc (.cells #[.string ⟨body.toArray⟩] 9)).heap.size = w1.heap.size + 1 := by simp
  rw [hq3] at hP3
  have hlt1 := hR1.lt
  clear hR2 hB2 bW2 hR1 hq3
  have hmf : ∀ (fn : Fn) (first cap : Array Value) (w : World), (Instr.makeFunc fn first cap).run Try.prog w = .ok (.func fn first cap) w := fun _ _ _ _ => rfl
  have HZ3 := Lib.hid hz3
  clear hz3
  go_wp2_with fail
  clear hmf
  obtain ⟨W3, hW3⟩ : ∃ W, W = (w1.alloc (.cells #[.string ⟨body.toArray⟩] 9)).alloc (.cells #[.slice none 0 0, .slice none 0 0, .slice none 0 0] 42) := ⟨_, rfl⟩
  rw [← hW3] at hP3 hB3 hR3 bW3 HZ3 ⊢
  clear hW3
  have hP4 := hP3.alloc (.cells #[.int .i64 0] 30)
  have hB4 := hB3.alloc (.cells #[.int .i64 0] 30)
  have hE4 := Blk.new W3 30 #[.int .i64 0]
  have hR4 := hR3.alloc (.cells #[.int .i64 0] 30)
  have bW4 := bW3.alloc bW3.size (.cells #[.int .i64 0] 30)
  have hC : C44 (W3.alloc (.cells #[.int .i64 0] 30)) w1.heap.size (w1.heap.size + 1) body := ⟨hB4, _, _, _, hP4⟩
  have hcl := clos44_err body w1.heap.size (w1.heap.size + 1) c _ hC hbl HB.out
  refine (read_err 44 #[.pointer (some ⟨w1.heap.size, 0, none⟩), .pointer (some ⟨w1.heap.size + 1, 0, none⟩)] W3 c (fun u => (W3.alloc (.cells #[.int .i64 0] 30)).grownBy u (some (w1.heap.size + 1))) (fun w => call44 _ w) (hcl.mono fun e u ⟨h1, h2⟩ => ⟨h1, hE4.grown h2 (by intro e; injection e with e; have := HZ3.out; omega), h2⟩)).mono ?_
  rintro x w5 ⟨rfl, u, hu, hg5⟩
  have hR9 := (hR4.grown hu (by intro e; injection e with e; omega)).grown hg5 (by intro e; injection e with e; have := HZ3.out; omega)
  have b9 := (bW4.trans (below_of_grown hu (by have := bW1.size; omega) bW4.size)).trans (below_of_grown hg5 (by have := HZ3.out; have := bW1.size; omega) (by have := hu.size; have := bW4.size; omega))
  clear hcl hC hu hg5 hP3 hB3 hR3 hP4 hB4 hE4 hR4 bW3 bW4
  have hF := hR9
  have z0 := hF.cell 0
  have z1 := hF.cell 1
  have z2 := hF.cell 2
  have f0 := hF.frozen 0
  have f1 := hF.frozen 1
  have f2 := hF.frozen 2
  have hF2 := ((hF.set_ 0 (.slice none 0 0)).set_ 1 (.slice none 0 0)).set_ 2 (.slice none 0 0)
  have d0 := hF2.cell 0
  have d1 := hF2.cell 1
  have d2 := hF2.cell 2
  have bF := (((b9.setCell (p := ⟨w.heap.size, 0, none⟩) (by simp) (.slice none 0 0)).setCell (p := ⟨w.heap.size, 1, none⟩) (by simp) (.slice none 0 0)).setCell (p := ⟨w.heap.size, 2, none⟩) (by simp) (.slice none 0 0))
  have D := Lib.hid (And.intro d0 (And.intro d1 d2))
  have BF := Lib.hid bF
  clear d0 d1 d2 bF hF2
  go_wp2
  obtain ⟨d0, d1, d2⟩ := D.out
  have bF := BF.out
  clear D BF z0 z1 z2 f0 f1 f2 hF hR9
  generalize World.setCell (World.setCell (World.setCell _ ⟨w.heap.size, 0, none⟩ (.slice none 0 0)) ⟨w.heap.size, 1, none⟩ (.slice none 0 0)) ⟨w.heap.size, 2, none⟩ (.slice none 0 0) = V at d0 d1 d2 bF ⊢
  exact bodyPost_ret (v := .tuple #[.agg #[.slice none 0 0, .slice none 0 0, .slice none 0 0], .int .i64 c]) (by simp [results, Try.results24, go_sem] at d0 d1 d2 ⊢; simp [d0, d1, d2]) rfl (rpost_none bF)
set_option maxRecDepth 100000 in
set_option maxHeartbeats 4000000 in
theorem readPool_bad (s body : List UInt8) (p : Pl) (w : World) (hl : s.length ≤ 1000000) (hbl : body.length ≤ 1000000) (hO : openR s = (body, 0)) (hB : bodyP body = .ok p) (hv : p.ok = false) (hl0 : p.codes.length ≤ 1000000) (hl1 : p.starts.length ≤ 1000000) :
    Calls Try.prog 24 #[.string ⟨s.toArray⟩] w (RPost Pl.none 11 w) := by
  have HO := Lib.hid hO
  have HB := Lib.hid hB
  have HV := Lib.hid (show okP p.codes.length p.starts p.lengths = false from hv)
  clear hO hB hv
  have bW0 := newBl w (.cells #[.slice none 0 0, .slice none 0 0, .slice none 0 0] 42)
  have hR0 := Blk.new w 42 #[.slice none 0 0, .slice none 0 0, .slice none 0 0]
  have hs0 : w.heap.size + 1 = (w.alloc (.cells #[.slice none 0 0, .slice none 0 0, .slice none 0 0] 42)).heap.size := by simp
  have HS0 := Lib.hid hs0
  clear hs0
  go_enter Try.func24, Try.ntmps24
  go_wp2_with fail
  obtain ⟨W0, hW0⟩ : ∃ W, W = w.alloc (.cells #[.slice none 0 0, .slice none 0 0, .slice none 0 0] 42) := ⟨_, rfl⟩
  rw [← hW0] at bW0 hR0 HS0 ⊢
  clear hW0
  refine (open_any s W0 hl).mono ?_
  rintro x w1 ⟨rfl, hb1⟩
  rw [HO.out]
  have hR1 := stayBl hR0 hb1
  have bW1 := bW0.trans (hb1.mono bW0.size)
  clear hR0 bW0 hb1
  have hB2 := Blk.new w1 9 #[.string ⟨body.toArray⟩]
  have hR2 := hR1.alloc (.cells #[.string ⟨body.toArray⟩] 9)
  have bW2 := bW1.alloc bW1.size (.cells #[.string ⟨body.toArray⟩] 9)
  have hP3 := Blk.new (w1.alloc (.cells #[.string ⟨body.toArray⟩] 9)) 42 #[.slice none 0 0, .slice none 0 0, .slice none 0 0]
  have hB3 := hB2.alloc (.cells #[.slice none 0 0, .slice none 0 0, .slice none 0 0] 42)
  have hR3 := hR2.alloc (.cells #[.slice none 0 0, .slice none 0 0, .slice none 0 0] 42)
  have bW3 := bW2.alloc bW2.size (.cells #[.slice none 0 0, .slice none 0 0, .slice none 0 0] 42)
  have hz3 : ((w1.alloc (.cells #[.string ⟨body.toArray⟩] 9)).alloc (.cells #[.slice none 0 0, .slice none 0 0, .slice none 0 0] 42)).heap.size = w1.heap.size + 2 := by simp
  have hq3 : (w1.alloc (.cells #[.string ⟨body.toArray⟩] 9)).heap.size = w1.heap.size + 1 := by simp
  rw [hq3] at hP3
  have hlt1 := hR1.lt
  clear hR2 hB2 bW2 hR1 hq3
  have hmf : ∀ (fn : Fn) (first cap : Array Value) (w : World), (Instr.makeFunc fn first cap).run Try.prog w = .ok (.func fn first cap) w := fun _ _ _ _ => rfl
  have HZ3 := Lib.hid hz3
  clear hz3
  go_wp2_with fail
  clear hmf
  obtain ⟨W3, hW3⟩ : ∃ W, W = (w1.alloc (.cells #[.string ⟨body.toArray⟩] 9)).alloc (.cells #[.slice none 0 0, .slice none 0 0, .slice none 0 0] 42) := ⟨_, rfl⟩
  rw [← hW3] at hP3 hB3 hR3 bW3 HZ3 ⊢
  clear hW3
  have hP4 := hP3.alloc (.cells #[.int .i64 0] 30)
  have hB4 := hB3.alloc (.cells #[.int .i64 0] 30)
  have hE4 := Blk.new W3 30 #[.int .i64 0]
  have hR4 := hR3.alloc (.cells #[.int .i64 0] 30)
  have bW4 := bW3.alloc bW3.size (.cells #[.int .i64 0] 30)
  have hC : C44 (W3.alloc (.cells #[.int .i64 0] 30)) w1.heap.size (w1.heap.size + 1) body := ⟨hB4, _, _, _, hP4⟩
  have hcl := clos44_ok body w1.heap.size (w1.heap.size + 1) p _ hC hbl HB.out
  refine (read_ok 44 #[.pointer (some ⟨w1.heap.size, 0, none⟩), .pointer (some ⟨w1.heap.size + 1, 0, none⟩)] W3 (fun u => ∃ A0 c0 A1 c1 A2 c2, Blk u (w1.heap.size + 1) 42 #[.slice A0 p.codes.length c0, .slice A1 p.starts.length c1, .slice A2 p.lengths.length c2] ∧ u.ownsRow (w1.heap.size + 4) 3 1 (.slice A0 p.codes.length c0) p.codes.length (p.codes.map iv) ∧ u.ownsRow (w1.heap.size + 4) 3 1 (.slice A1 p.starts.length c1) p.starts.length (p.starts.map iv) ∧ u.ownsRow (w1.heap.size + 4) 3 1 (.slice A2 p.lengths.length c2) p.lengths.length (p.lengths.map iv) ∧ (W3.alloc (.cells #[.int .i64 0] 30)).grownBy u (some (w1.heap.size + 1))) (fun w => call44 _ w) (hcl.mono fun e u ⟨h1, A0, c0, A1, c1, A2, c2, h2, h3, h4, h5, h6⟩ => ⟨h1, hE4.grown h6 (by intro e; injection e with e; have := HZ3.out; omega), A0, c0, A1, c1, A2, c2, h2, own_base h3 (by have := HZ3.out; simp; omega), own_base h4 (by have := HZ3.out; simp; omega), own_base h5 (by have := HZ3.out; simp; omega), h6⟩)).mono ?_
  rintro x w5 ⟨rfl, u, ⟨A0, c0, A1, c1, A2, c2, hP5, o1, o2, o3, hu⟩, hg5⟩
  have hR9 := (hR4.grown hu (by intro e; injection e with e; omega)).grown hg5 (by intro e; injection e with e; have := HZ3.out; omega)
  have hP9 := hP5.grown hg5 (by intro e; injection e with e; have := HZ3.out; omega)
  have K1 := Lib.hid (own_kept o1 hg5 (by have := HZ3.out; omega))
  have K2 := Lib.hid (own_kept o2 hg5 (by have := HZ3.out; omega))
  have K3 := Lib.hid (own_kept o3 hg5 (by have := HZ3.out; omega))
  have r2 := Reads.of_own K2.out
  have r3 := Reads.of_own K3.out
  have b9 := (bW4.trans (below_of_grown hu (by have := bW1.size; omega) bW4.size)).trans (below_of_grown hg5 (by have := HZ3.out; have := bW1.size; omega) (by have := hu.size; have := bW4.size; omega))
  clear hcl hC hu hg5 hP3 hB3 hR3 hP4 hB4 hE4 hR4 bW3 bW4 hP5 o1 o2 o3
  have y0 := hP9.cell 0
  have y1 := hP9.cell 1
  have y2 := hP9.cell 2
  go_wp2_with fail
  clear y0 y1 y2
  refine (valid_any A0 A1 A2 p.codes.length c0 p.starts.length c1 p.lengths.length c2 p.starts p.lengths w5 r2 r3 hl0 hl1).mono ?_
  rintro x w6 ⟨rfl, rfl⟩
  rw [HV.out]
  have bb := newBl w5 (.cells #[.slice A0 p.codes.length c0, .slice A1 p.starts.length c1, .slice A2 p.lengths.length c2] 42)
  have hR10 := stayBl hR9 bb
  have b10 := b9.trans (bb.mono b9.size)
  clear hR9 b9
  have hR9 := hR10
  clear hR10
  have hF := hR9
  have z0 := hF.cell 0
  have z1 := hF.cell 1
  have z2 := hF.cell 2
  have f0 := hF.frozen 0
  have f1 := hF.frozen 1
  have f2 := hF.frozen 2
  have hF2 := ((hF.set_ 0 (.slice none 0 0)).set_ 1 (.slice none 0 0)).set_ 2 (.slice none 0 0)
  have d0 := hF2.cell 0
  have d1 := hF2.cell 1
  have d2 := hF2.cell 2
  have bF := (((b10.setCell (p := ⟨w.heap.size, 0, none⟩) (by simp) (.slice none 0 0)).setCell (p := ⟨w.heap.size, 1, none⟩) (by simp) (.slice none 0 0)).setCell (p := ⟨w.heap.size, 2, none⟩) (by simp) (.slice none 0 0))
  have D := Lib.hid (And.intro d0 (And.intro d1 d2))
  have BF := Lib.hid bF
  clear d0 d1 d2 bF hF2
  go_wp2
  obtain ⟨d0, d1, d2⟩ := D.out
  have bF := BF.out
  clear D BF z0 z1 z2 f0 f1 f2 hF hR9
  generalize World.setCell (World.setCell (World.setCell _ ⟨w.heap.size, 0, none⟩ (.slice none 0 0)) ⟨w.heap.size, 1, none⟩ (.slice none 0 0)) ⟨w.heap.size, 2, none⟩ (.slice none 0 0) = V at d0 d1 d2 bF ⊢
  exact bodyPost_ret (v := .tuple #[.agg #[.slice none 0 0, .slice none 0 0, .slice none 0 0], .int .i64 11]) (by simp [results, Try.results24, go_sem] at d0 d1 d2 ⊢; simp [d0, d1, d2]) rfl (rpost_none bF)
set_option maxRecDepth 100000 in
set_option maxHeartbeats 4000000 in
theorem readPool_good (s body : List UInt8) (p : Pl) (w : World) (hl : s.length ≤ 1000000) (hbl : body.length ≤ 1000000) (hO : openR s = (body, 0)) (hB : bodyP body = .ok p) (hv : p.ok = true) (hl0 : p.codes.length ≤ 1000000) (hl1 : p.starts.length ≤ 1000000) :
    Calls Try.prog 24 #[.string ⟨s.toArray⟩] w (RPost p 0 w) := by
  have HO := Lib.hid hO
  have HB := Lib.hid hB
  have HV := Lib.hid (show okP p.codes.length p.starts p.lengths = true from hv)
  clear hO hB hv
  have bW0 := newBl w (.cells #[.slice none 0 0, .slice none 0 0, .slice none 0 0] 42)
  have hR0 := Blk.new w 42 #[.slice none 0 0, .slice none 0 0, .slice none 0 0]
  have hs0 : w.heap.size + 1 = (w.alloc (.cells #[.slice none 0 0, .slice none 0 0, .slice none 0 0] 42)).heap.size := by simp
  have HS0 := Lib.hid hs0
  clear hs0
  go_enter Try.func24, Try.ntmps24
  go_wp2_with fail
  obtain ⟨W0, hW0⟩ : ∃ W, W = w.alloc (.cells #[.slice none 0 0, .slice none 0 0, .slice none 0 0] 42) := ⟨_, rfl⟩
  rw [← hW0] at bW0 hR0 HS0 ⊢
  clear hW0
  refine (open_any s W0 hl).mono ?_
  rintro x w1 ⟨rfl, hb1⟩
  rw [HO.out]
  have hR1 := stayBl hR0 hb1
  have bW1 := bW0.trans (hb1.mono bW0.size)
  clear hR0 bW0 hb1
  have hB2 := Blk.new w1 9 #[.string ⟨body.toArray⟩]
  have hR2 := hR1.alloc (.cells #[.string ⟨body.toArray⟩] 9)
  have bW2 := bW1.alloc bW1.size (.cells #[.string ⟨body.toArray⟩] 9)
  have hP3 := Blk.new (w1.alloc (.cells #[.string ⟨body.toArray⟩] 9)) 42 #[.slice none 0 0, .slice none 0 0, .slice none 0 0]
  have hB3 := hB2.alloc (.cells #[.slice none 0 0, .slice none 0 0, .slice none 0 0] 42)
  have hR3 := hR2.alloc (.cells #[.slice none 0 0, .slice none 0 0, .slice none 0 0] 42)
  have bW3 := bW2.alloc bW2.size (.cells #[.slice none 0 0, .slice none 0 0, .slice none 0 0] 42)
  have hz3 : ((w1.alloc (.cells #[.string ⟨body.toArray⟩] 9)).alloc (.cells #[.slice none 0 0, .slice none 0 0, .slice none 0 0] 42)).heap.size = w1.heap.size + 2 := by simp
  have hq3 : (w1.alloc (.cells #[.string ⟨body.toArray⟩] 9)).heap.size = w1.heap.size + 1 := by simp
  rw [hq3] at hP3
  have hlt1 := hR1.lt
  clear hR2 hB2 bW2 hR1 hq3
  have hmf : ∀ (fn : Fn) (first cap : Array Value) (w : World), (Instr.makeFunc fn first cap).run Try.prog w = .ok (.func fn first cap) w := fun _ _ _ _ => rfl
  have HZ3 := Lib.hid hz3
  clear hz3
  go_wp2_with fail
  clear hmf
  obtain ⟨W3, hW3⟩ : ∃ W, W = (w1.alloc (.cells #[.string ⟨body.toArray⟩] 9)).alloc (.cells #[.slice none 0 0, .slice none 0 0, .slice none 0 0] 42) := ⟨_, rfl⟩
  rw [← hW3] at hP3 hB3 hR3 bW3 HZ3 ⊢
  clear hW3
  have hP4 := hP3.alloc (.cells #[.int .i64 0] 30)
  have hB4 := hB3.alloc (.cells #[.int .i64 0] 30)
  have hE4 := Blk.new W3 30 #[.int .i64 0]
  have hR4 := hR3.alloc (.cells #[.int .i64 0] 30)
  have bW4 := bW3.alloc bW3.size (.cells #[.int .i64 0] 30)
  have hC : C44 (W3.alloc (.cells #[.int .i64 0] 30)) w1.heap.size (w1.heap.size + 1) body := ⟨hB4, _, _, _, hP4⟩
  have hcl := clos44_ok body w1.heap.size (w1.heap.size + 1) p _ hC hbl HB.out
  refine (read_ok 44 #[.pointer (some ⟨w1.heap.size, 0, none⟩), .pointer (some ⟨w1.heap.size + 1, 0, none⟩)] W3 (fun u => ∃ A0 c0 A1 c1 A2 c2, Blk u (w1.heap.size + 1) 42 #[.slice A0 p.codes.length c0, .slice A1 p.starts.length c1, .slice A2 p.lengths.length c2] ∧ u.ownsRow (w1.heap.size + 4) 3 1 (.slice A0 p.codes.length c0) p.codes.length (p.codes.map iv) ∧ u.ownsRow (w1.heap.size + 4) 3 1 (.slice A1 p.starts.length c1) p.starts.length (p.starts.map iv) ∧ u.ownsRow (w1.heap.size + 4) 3 1 (.slice A2 p.lengths.length c2) p.lengths.length (p.lengths.map iv) ∧ (W3.alloc (.cells #[.int .i64 0] 30)).grownBy u (some (w1.heap.size + 1))) (fun w => call44 _ w) (hcl.mono fun e u ⟨h1, A0, c0, A1, c1, A2, c2, h2, h3, h4, h5, h6⟩ => ⟨h1, hE4.grown h6 (by intro e; injection e with e; have := HZ3.out; omega), A0, c0, A1, c1, A2, c2, h2, own_base h3 (by have := HZ3.out; simp; omega), own_base h4 (by have := HZ3.out; simp; omega), own_base h5 (by have := HZ3.out; simp; omega), h6⟩)).mono ?_
  rintro x w5 ⟨rfl, u, ⟨A0, c0, A1, c1, A2, c2, hP5, o1, o2, o3, hu⟩, hg5⟩
  have hR9 := (hR4.grown hu (by intro e; injection e with e; omega)).grown hg5 (by intro e; injection e with e; have := HZ3.out; omega)
  have hP9 := hP5.grown hg5 (by intro e; injection e with e; have := HZ3.out; omega)
  have K1 := Lib.hid (own_kept o1 hg5 (by have := HZ3.out; omega))
  have K2 := Lib.hid (own_kept o2 hg5 (by have := HZ3.out; omega))
  have K3 := Lib.hid (own_kept o3 hg5 (by have := HZ3.out; omega))
  have r2 := Reads.of_own K2.out
  have r3 := Reads.of_own K3.out
  have b9 := (bW4.trans (below_of_grown hu (by have := bW1.size; omega) bW4.size)).trans (below_of_grown hg5 (by have := HZ3.out; have := bW1.size; omega) (by have := hu.size; have := bW4.size; omega))
  clear hcl hC hu hg5 hP3 hB3 hR3 hP4 hB4 hE4 hR4 bW3 bW4 hP5 o1 o2 o3
  have y0 := hP9.cell 0
  have y1 := hP9.cell 1
  have y2 := hP9.cell 2
  go_wp2_with fail
  clear y0 y1 y2
  refine (valid_any A0 A1 A2 p.codes.length c0 p.starts.length c1 p.lengths.length c2 p.starts p.lengths w5 r2 r3 hl0 hl1).mono ?_
  rintro x w6 ⟨rfl, rfl⟩
  rw [HV.out]
  have bb := newBl w5 (.cells #[.slice A0 p.codes.length c0, .slice A1 p.starts.length c1, .slice A2 p.lengths.length c2] 42)
  have hR10 := stayBl hR9 bb
  have hP10 := stayBl hP9 bb
  have b10 := b9.trans (bb.mono b9.size)
  have y0 := hP10.cell 0
  have y1 := hP10.cell 1
  have y2 := hP10.cell 2
  have z0 := hR10.cell 0
  have z1 := hR10.cell 1
  have z2 := hR10.cell 2
  have f0 := hR10.frozen 0
  have f1 := hR10.frozen 1
  have f2 := hR10.frozen 2
  have hF2 := ((hR10.set_ 0 (.slice A0 p.codes.length c0)).set_ 1 (.slice A1 p.starts.length c1)).set_ 2 (.slice A2 p.lengths.length c2)
  have bF := (((b10.setCell (p := ⟨w.heap.size, 0, none⟩) (by simp) (.slice A0 p.codes.length c0)).setCell (p := ⟨w.heap.size, 1, none⟩) (by simp) (.slice A1 p.starts.length c1)).setCell (p := ⟨w.heap.size, 2, none⟩) (by simp) (.slice A2 p.lengths.length c2))
  have D := Lib.hid (And.intro (hF2.cell 0) (And.intro (hF2.cell 1) (hF2.cell 2)))
  have BF := Lib.hid bF
  have RR := Lib.hid (And.intro (Reads.of_own (own_3 (own_below K1.out bb) (show w.heap.size < w1.heap.size + 4 by have := bW1.size; omega) (.slice A0 p.codes.length c0) (.slice A1 p.starts.length c1) (.slice A2 p.lengths.length c2))) (And.intro (Reads.of_own (own_3 (own_below K2.out bb) (show w.heap.size < w1.heap.size + 4 by have := bW1.size; omega) (.slice A0 p.codes.length c0) (.slice A1 p.starts.length c1) (.slice A2 p.lengths.length c2))) (Reads.of_own (own_3 (own_below K3.out bb) (show w.heap.size < w1.heap.size + 4 by have := bW1.size; omega) (.slice A0 p.codes.length c0) (.slice A1 p.starts.length c1) (.slice A2 p.lengths.length c2)))))
  clear bF hF2 hR10 hP10 b10 r2 r3 hP9 hR9 b9
  go_wp2
  obtain ⟨d0, d1, d2⟩ := D.out
  obtain ⟨r1, r2, r3⟩ := RR.out
  have bF := BF.out
  clear D BF RR y0 y1 y2 z0 z1 z2 f0 f1 f2
  generalize World.setCell (World.setCell (World.setCell _ ⟨w.heap.size, 0, none⟩ (.slice A0 p.codes.length c0)) ⟨w.heap.size, 1, none⟩ (.slice A1 p.starts.length c1)) ⟨w.heap.size, 2, none⟩ (.slice A2 p.lengths.length c2) = V at d0 d1 d2 bF r1 r2 r3 ⊢
  exact bodyPost_ret (v := .tuple #[.agg #[.slice A0 p.codes.length c0, .slice A1 p.starts.length c1, .slice A2 p.lengths.length c2], .int .i64 0]) (by simp [results, Try.results24, go_sem] at d0 d1 d2 ⊢; simp [d0, d1, d2]) rfl ⟨A0, c0, A1, c1, A2, c2, rfl, r1, r2, r3, bF⟩
theorem openR_len (s : List UInt8) : (openR s).1.length ≤ s.length := by
  unfold openR
  split
  · simp
  · split
    · simp
    · simp
theorem readPool_any (s : List UInt8) (p : Pl) (e : Int) (w : World) (hl : s.length ≤ 1000000) (hR : poolR s = (p, e)) : Calls Try.prog 24 #[.string ⟨s.toArray⟩] w (RPost p e w) := by
  have hol := openR_len s
  obtain ⟨⟨body, eo⟩, hO⟩ : ∃ x, openR s = x := ⟨_, rfl⟩
  rw [hO] at hol
  simp only at hol
  unfold poolR at hR
  rw [hO] at hR
  simp only at hR
  by_cases h0 : eo = 0
  · subst h0
    rw [if_neg (by simp)] at hR
    cases hB : bodyP body with
    | error c =>
      rw [hB] at hR
      simp only [Prod.mk.injEq] at hR
      obtain ⟨rfl, rfl⟩ := hR
      exact readPool_body s body _ w hl (by omega) hO hB
    | ok q =>
      rw [hB] at hR
      simp only at hR
      obtain ⟨i, j, k, e1, e2, e3, e4⟩ := bodyP_ok hB
      have q1 := flat_len q.codes
      have l1 : q.codes.length ≤ 1000000 := by
        have := (readL_min e1).2.1; have h2 := congrArg List.length this
        rw [List.length_take] at h2
        have := len_intsB q.codes; omega
      have l2 : q.starts.length ≤ 1000000 := by
        have := (readL_min e2).2.1; have h2 := congrArg List.length this
        rw [List.length_take, List.length_drop] at h2
        have := len_intsB q.starts; omega
      cases hv : q.ok with
      | true =>
        rw [if_pos hv] at hR
        simp only [Prod.mk.injEq] at hR
        obtain ⟨rfl, rfl⟩ := hR
        exact readPool_good s body _ w hl (by omega) hO hB hv l1 l2
      | false =>
        rw [if_neg (by rw [hv]; simp)] at hR
        simp only [Prod.mk.injEq] at hR
        obtain ⟨rfl, rfl⟩ := hR
        exact readPool_bad s body _ w hl (by omega) hO hB hv l1 l2
  · rw [if_pos h0] at hR
    simp only [Prod.mk.injEq] at hR
    obtain ⟨rfl, rfl⟩ := hR
    exact readPool_open s body _ w hl hO h0
end Go.Proofs.Ythpngcfggnhdjaa
