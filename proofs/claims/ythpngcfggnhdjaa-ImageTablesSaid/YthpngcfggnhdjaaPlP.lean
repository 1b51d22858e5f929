/- image.Pool, the reference's Pool, and the walk of ImagePools. -/
import Derived.Test.YthpngcfggnhdjaaPlW
namespace Go.Proofs.Ythpngcfggnhdjaa
open Go.RowKit Go.Proofs.Img

def smallB (a b c : Nat) : Bool := decide (a ≤ 100 ∧ b ≤ 100 ∧ c ≤ 100)
set_option maxHeartbeats 1000000 in
theorem small_any (A0 A1 A2 : Option Addr) (n0 c0 n1 c1 n2 c2 : Nat) (w : World) :
    Calls Try.prog 27 #[.agg #[.slice A0 n0 c0, .slice A1 n1 c1, .slice A2 n2 c2]] w fun e w' => e = .returned (.bool (smallB n0 n1 n2)) ∧ Below w.heap.size w w' := by
  by_cases h0 : n0 ≤ 100
  · by_cases h1 : n1 ≤ 100
    · by_cases h2 : n2 ≤ 100
      · have H := Lib.hid (show smallB n0 n1 n2 = true by simp [smallB]; omega)
        have g0 : (n0 : Int) ≤ 100 := by omega
        have g1 : (n1 : Int) ≤ 100 := by omega
        have g2 : (n2 : Int) ≤ 100 := by omega
        go_enter Try.func27, Try.ntmps27
        go_wp2
        go_ret
        exact ⟨by rw [H.out]; rfl, newBl w _⟩
      · have H := Lib.hid (show smallB n0 n1 n2 = false by simp [smallB]; omega)
        have g0 : (n0 : Int) ≤ 100 := by omega
        have g1 : (n1 : Int) ≤ 100 := by omega
        have g2 : ¬ (n2 : Int) ≤ 100 := by omega
        go_enter Try.func27, Try.ntmps27
        go_wp2
        go_ret
        exact ⟨by rw [H.out]; rfl, newBl w _⟩
    · have H := Lib.hid (show smallB n0 n1 n2 = false by simp [smallB]; omega)
      have g0 : (n0 : Int) ≤ 100 := by omega
      have g1 : ¬ (n1 : Int) ≤ 100 := by omega
      go_enter Try.func27, Try.ntmps27
      go_wp2
      go_ret
      exact ⟨by rw [H.out]; rfl, newBl w _⟩
  · have H := Lib.hid (show smallB n0 n1 n2 = false by simp [smallB]; omega)
    have g0 : ¬ (n0 : Int) ≤ 100 := by omega
    go_enter Try.func27, Try.ntmps27
    go_wp2
    go_ret
    exact ⟨by rw [H.out]; rfl, newBl w _⟩

theorem lsB_three (x y z : List Int) : lsB [x, y, z] = poolB ⟨x, y, z⟩ := by simp [lsB, poolB]
/-- the three lists of a pool that came in -/
structure PlIn (w : World) (A0 A1 A2 : Option Addr) (n0 n1 n2 : Nat) (x y z : List Int) : Prop where
  r0 : Reads w w.heap.size 1 A0 n0 (x.map iv)
  r1 : Reads w w.heap.size 1 A1 n1 (y.map iv)
  r2 : Reads w w.heap.size 1 A2 n2 (z.map iv)
  i0 : ∀ a ∈ x, I64 a
  i1 : ∀ a ∈ y, I64 a
  i2 : ∀ a ∈ z, I64 a
  l0 : n0 ≤ 100
  l1 : n1 ≤ 100
  l2 : n2 ≤ 100
theorem PlIn.stay {w w' : World} {A0 A1 A2 : Option Addr} {n0 n1 n2 : Nat} {x y z : List Int} (h : PlIn w A0 A1 A2 n0 n1 n2 x y z) (hb : Below w.heap.size w w') : PlIn w' A0 A1 A2 n0 n1 n2 x y z :=
  ⟨stayR h.r0 hb, stayR h.r1 hb, stayR h.r2 hb, h.i0, h.i1, h.i2, h.l0, h.l1, h.l2⟩
theorem PlIn.len {w : World} {A0 A1 A2 : Option Addr} {n0 n1 n2 : Nat} {x y z : List Int} (h : PlIn w A0 A1 A2 n0 n1 n2 x y z) : x.length = n0 ∧ y.length = n1 ∧ z.length = n2 :=
  ⟨by have := h.r0.1; simpa using this, by have := h.r1.1; simpa using this, by have := h.r2.1; simpa using this⟩
theorem poolB_len {x y z : List Int} (h0 : x.length ≤ 100) (h1 : y.length ≤ 100) (h2 : z.length ≤ 100) : (poolB ⟨x, y, z⟩).length ≤ 4000 := by
  have := intsB_le x; have := intsB_le y; have := intsB_le z
  simp [poolB]; omega
theorem rows_three {w : World} {A0 A1 A2 : Option Addr} {n0 n1 n2 : Nat} {x y z : List Int} (c0 c1 c2 : Nat) (h : PlIn w A0 A1 A2 n0 n1 n2 x y z) :
    RowsOf (w.alloc (.cells #[.slice A0 n0 c0, .slice A1 n1 c1, .slice A2 n2 c2] 26)) (w.heap.size + 1) [.slice A0 n0 c0, .slice A1 n1 c1, .slice A2 n2 c2] [x, y, z] := by
  obtain ⟨e0, e1, e2⟩ := h.len
  refine ⟨rfl, fun j l hj => ?_⟩
  match j, hj with
  | 0, hj => simp at hj; subst hj; exact ⟨A0, c0, by simp [e0], by rw [e0]; exact (h.r0.alloc (Nat.le_refl _) _).more (by omega), h.i0⟩
  | 1, hj => simp at hj; subst hj; exact ⟨A1, c1, by simp [e1], by rw [e1]; exact (h.r1.alloc (Nat.le_refl _) _).more (by omega), h.i1⟩
  | 2, hj => simp at hj; subst hj; exact ⟨A2, c2, by simp [e2], by rw [e2]; exact (h.r2.alloc (Nat.le_refl _) _).more (by omega), h.i2⟩

set_option maxRecDepth 100000 in
set_option maxHeartbeats 2000000 in
theorem pool_any (A0 A1 A2 : Option Addr) (n0 c0 n1 c1 n2 c2 : Nat) (x y z : List Int) (s : List UInt8) (e : Int) (w : World) (h : PlIn w A0 A1 A2 n0 n1 n2 x y z) (hW : poolW ⟨x, y, z⟩ = (s, e)) :
    Calls Try.prog 28 #[.agg #[.slice A0 n0 c0, .slice A1 n1 c1, .slice A2 n2 c2]] w fun r w' => r = .returned (.tuple #[.string ⟨s.toArray⟩, .int .i64 e]) ∧ Below w.heap.size w w' := by
  obtain ⟨e0, e1, e2⟩ := h.len
  have b0 := newBl w (.cells #[.slice A0 n0 c0, .slice A1 n1 c1, .slice A2 n2 c2] 42)
  have p0 := Blk.new w 42 #[.slice A0 n0 c0, .slice A1 n1 c1, .slice A2 n2 c2]
  have H0 := Lib.hid (h.stay b0)
  have hl0 := h.l0
  have hl1 := h.l1
  have hl2 := h.l2
  have hpl := poolB_len (x := x) (y := y) (z := z) (by omega) (by omega) (by omega)
  cases hok : okP n0 y z with
  | false =>
    have hW2 : poolW ⟨x, y, z⟩ = ([], 11) := by rw [poolW, if_neg (by show ¬ okP x.length y z = true; rw [e0, hok]; simp)]
    rw [hW2] at hW
    simp only [Prod.mk.injEq] at hW
    obtain ⟨rfl, rfl⟩ := hW
    have Hok := Lib.hid hok
    clear hok hW2 h e0 e1 e2
    go_enter Try.func28, Try.ntmps28
    go_wp2_with fail
    obtain ⟨W, hW⟩ : ∃ W, W = w.alloc (.cells #[.slice A0 n0 c0, .slice A1 n1 c1, .slice A2 n2 c2] 42) := ⟨_, rfl⟩
    rw [← hW] at b0 p0 H0 ⊢
    clear hW
    refine (valid_any A0 A1 A2 n0 c0 n1 c1 n2 c2 y z W H0.out.r1 H0.out.r2 (by omega) (by omega)).mono ?_
    rintro r w1 ⟨rfl, rfl⟩
    rw [Hok.out]
    have b1 := b0.alloc b0.size (.cells #[.slice A0 n0 c0, .slice A1 n1 c1, .slice A2 n2 c2] 42)
    go_wp2
    go_ret2
    exact ⟨rfl, b1⟩
  | true =>
    have hW2 : poolW ⟨x, y, z⟩ = (shutB (poolB ⟨x, y, z⟩), 0) := by rw [poolW, if_pos (by show okP x.length y z = true; rw [e0, hok])]
    rw [hW2] at hW
    simp only [Prod.mk.injEq] at hW
    obtain ⟨rfl, rfl⟩ := hW
    have Hok := Lib.hid hok
    clear hok hW2 h e0 e1 e2
    go_enter Try.func28, Try.ntmps28
    go_wp2_with fail
    obtain ⟨W, hW⟩ : ∃ W, W = w.alloc (.cells #[.slice A0 n0 c0, .slice A1 n1 c1, .slice A2 n2 c2] 42) := ⟨_, rfl⟩
    rw [← hW] at b0 p0 H0 ⊢
    clear hW
    refine (valid_any A0 A1 A2 n0 c0 n1 c1 n2 c2 y z W H0.out.r1 H0.out.r2 (by omega) (by omega)).mono ?_
    rintro r w1 ⟨rfl, rfl⟩
    rw [Hok.out]
    have bb := newBl W (.cells #[.slice A0 n0 c0, .slice A1 n1 c1, .slice A2 n2 c2] 42)
    obtain ⟨W1, hW⟩ : ∃ W1, W1 = W.alloc (.cells #[.slice A0 n0 c0, .slice A1 n1 c1, .slice A2 n2 c2] 42) := ⟨_, rfl⟩
    rw [← hW] at bb ⊢
    clear hW
    have p1 := stayBl p0 bb
    have b1 := b0.trans (bb.mono b0.size)
    have H1 := Lib.hid (H0.out.stay bb)
    clear bb p0 b0
    have k0 := p1.cell 0
    have k1 := p1.cell 1
    have k2 := p1.cell 2
    have hrow : Reads (W1.alloc (.cells #[.slice A0 n0 c0, .slice A1 n1 c1, .slice A2 n2 c2] 26)) (W1.heap.size + 1) 1 (some ⟨W1.heap.size, 0, none⟩) 3 [.slice A0 n0 c0, .slice A1 n1 c1, .slice A2 n2 c2] :=
      reads_new W1 #[.slice A0 n0 c0, .slice A1 n1 c1, .slice A2 n2 c2] 26 _ rfl
    have hrs := rows_three c0 c1 c2 H1.out
    have b2 := b1.alloc b1.size (.cells #[.slice A0 n0 c0, .slice A1 n1 c1, .slice A2 n2 c2] 26)
    go_wp2_with fail
    clear k0 k1 k2
    refine (write_any (W1.heap.size + 1) 3 3 _ _ [x, y, z] _ hrow hrs (by simp) (by rw [lsB_three]; omega)).mono ?_
    rintro r w2 ⟨rfl, hb2⟩
    rw [lsB_three]
    have b3 := b2.trans (hb2.mono b2.size)
    clear hrow hrs b2 hb2
    go_wp2_with fail
    refine (shut_any (poolB ⟨x, y, z⟩) w2 (by omega)).mono ?_
    rintro r w3 ⟨rfl, hb3⟩
    go_wp2
    go_ret2
    exact ⟨rfl, b3.trans (hb3.mono b3.size)⟩

theorem refintsH (A : Option Addr) (n c : Nat) (l : List Int) (X : List UInt8) (w : World) (h : Reads w w.heap.size 1 A n (l.map iv)) (hI : ∀ x ∈ l, I64 x) (hn : n ≤ 100) (hX : intsB l = X) :
    Calls Try.prog 17 #[.slice A n c] w fun e w' => e = .returned (.string ⟨X.toArray⟩) ∧ Below w.heap.size w w' :=
  (refints_any w.heap.size n c A l w h hI (Nat.le_refl _) (by omega)).mono fun e w' ⟨h1, h2⟩ => ⟨by rw [h1, hX], h2⟩
set_option maxRecDepth 100000 in
set_option maxHeartbeats 4000000 in
theorem refpoolW_any (A0 A1 A2 : Option Addr) (n0 c0 n1 c1 n2 c2 : Nat) (x y z : List Int) (s : List UInt8) (e : Int) (w : World) (h : PlIn w A0 A1 A2 n0 n1 n2 x y z) (hW : poolW ⟨x, y, z⟩ = (s, e)) :
    Calls Try.prog 29 #[.agg #[.slice A0 n0 c0, .slice A1 n1 c1, .slice A2 n2 c2]] w fun r w' => r = .returned (.tuple #[.string ⟨s.toArray⟩, .int .i64 e]) ∧ Below w.heap.size w w' := by
  obtain ⟨e0, e1, e2⟩ := h.len
  have b0 := newBl w (.cells #[.slice A0 n0 c0, .slice A1 n1 c1, .slice A2 n2 c2] 42)
  have p0 := Blk.new w 42 #[.slice A0 n0 c0, .slice A1 n1 c1, .slice A2 n2 c2]
  have H0 := Lib.hid (h.stay b0)
  have hl0 := h.l0
  have hl1 := h.l1
  have hl2 := h.l2
  have hpl := poolB_len (x := x) (y := y) (z := z) (by omega) (by omega) (by omega)
  cases hok : okP n0 y z with
  | false =>
    have hW2 : poolW ⟨x, y, z⟩ = ([], 11) := by rw [poolW, if_neg (by show ¬ okP x.length y z = true; rw [e0, hok]; simp)]
    rw [hW2] at hW
    simp only [Prod.mk.injEq] at hW
    obtain ⟨rfl, rfl⟩ := hW
    have Hok := Lib.hid hok
    clear hok hW2 h e0 e1 e2
    go_enter Try.func29, Try.ntmps29
    go_wp2_with fail
    obtain ⟨W, hW⟩ : ∃ W, W = w.alloc (.cells #[.slice A0 n0 c0, .slice A1 n1 c1, .slice A2 n2 c2] 42) := ⟨_, rfl⟩
    rw [← hW] at b0 p0 H0 ⊢
    clear hW
    refine (refvalid_any A0 A1 A2 n0 c0 n1 c1 n2 c2 y z W H0.out.r1 H0.out.r2 (by omega) (by omega)).mono ?_
    rintro r w1 ⟨rfl, hb1⟩
    rw [Hok.out]
    go_wp2
    go_ret2
    exact ⟨rfl, b0.trans (hb1.mono b0.size)⟩
  | true =>
    have hW2 : poolW ⟨x, y, z⟩ = (shutB (poolB ⟨x, y, z⟩), 0) := by rw [poolW, if_pos (by show okP x.length y z = true; rw [e0, hok])]
    rw [hW2] at hW
    simp only [Prod.mk.injEq] at hW
    obtain ⟨rfl, rfl⟩ := hW
    have Hok := Lib.hid hok
    have hx1 := intsB_le x
    have hx2 := intsB_le y
    have hx3 := intsB_le z
    rw [e0] at hx1
    rw [e1] at hx2
    rw [e2] at hx3
    have hPB : poolB ⟨x, y, z⟩ = intsB x ++ intsB y ++ intsB z := rfl
    rw [hPB] at hpl ⊢
    generalize hX : intsB x = X at hx1 hpl ⊢
    generalize hY : intsB y = Y at hx2 hpl ⊢
    generalize hZ : intsB z = Z at hx3 hpl ⊢
    have q1 : (⟨X.toArray⟩ : ByteArray) ++ ⟨Y.toArray⟩ = ⟨(X ++ Y).toArray⟩ := ByteArray.mk_append_mk X Y
    have q2 : (⟨(X ++ Y).toArray⟩ : ByteArray) ++ ⟨Z.toArray⟩ = ⟨(X ++ Y ++ Z).toArray⟩ := ByteArray.mk_append_mk _ Z
    generalize hXY : X ++ Y = XY at q1 q2 hpl ⊢
    generalize hXYZ : XY ++ Z = S at q2 hpl ⊢
    have hxy : XY.length ≤ 3000 := by rw [← hXY, List.length_append]; omega
    have HX := Lib.hid hX
    have HY := Lib.hid hY
    have HZ := Lib.hid hZ
    clear hok hW2 h e0 e1 e2 hPB hX hY hZ hXY hXYZ
    go_enter Try.func29, Try.ntmps29
    go_wp2_with fail
    obtain ⟨W, hW⟩ : ∃ W, W = w.alloc (.cells #[.slice A0 n0 c0, .slice A1 n1 c1, .slice A2 n2 c2] 42) := ⟨_, rfl⟩
    rw [← hW] at b0 p0 H0 ⊢
    clear hW
    refine (refvalid_any A0 A1 A2 n0 c0 n1 c1 n2 c2 y z W H0.out.r1 H0.out.r2 (by omega) (by omega)).mono ?_
    rintro r w1 ⟨rfl, hb1⟩
    rw [Hok.out]
    have p1 := stayBl p0 hb1
    have b1 := b0.trans (hb1.mono b0.size)
    have H1 := Lib.hid (H0.out.stay hb1)
    clear hb1 p0 b0
    have P1 := Lib.hid (fun (u : World) (hb : Below w1.heap.size w1 u) => And.intro ((stayBl p1 hb).cell 0) (And.intro ((stayBl p1 hb).cell 1) ((stayBl p1 hb).cell 2)))
    have C0 : Hid (∀ u : World, Below w1.heap.size w1 u → Calls Try.prog 17 #[.slice A0 n0 c0] u fun r v => r = .returned (.string ⟨X.toArray⟩) ∧ Below w1.heap.size w1 v) := fun u hb =>
      (refintsH A0 n0 c0 x X u (H1.out.stay hb).r0 H1.out.i0 hl0 HX.out).mono fun r v ⟨h1, h2⟩ => ⟨h1, hb.trans (h2.mono hb.size)⟩
    have C1 : Hid (∀ u : World, Below w1.heap.size w1 u → Calls Try.prog 17 #[.slice A1 n1 c1] u fun r v => r = .returned (.string ⟨Y.toArray⟩) ∧ Below w1.heap.size w1 v) := fun u hb =>
      (refintsH A1 n1 c1 y Y u (H1.out.stay hb).r1 H1.out.i1 hl1 HY.out).mono fun r v ⟨h1, h2⟩ => ⟨h1, hb.trans (h2.mono hb.size)⟩
    have C2 : Hid (∀ u : World, Below w1.heap.size w1 u → Calls Try.prog 17 #[.slice A2 n2 c2] u fun r v => r = .returned (.string ⟨Z.toArray⟩) ∧ Below w1.heap.size w1 v) := fun u hb =>
      (refintsH A2 n2 c2 z Z u (H1.out.stay hb).r2 H1.out.i2 hl2 HZ.out).mono fun r v ⟨h1, h2⟩ => ⟨h1, hb.trans (h2.mono hb.size)⟩
    have C3 : Hid (∀ u : World, Below w1.heap.size w1 u → Calls Try.prog 23 #[.string ⟨S.toArray⟩] u fun r v => r = .returned (.string ⟨(shutB S).toArray⟩) ∧ Below w1.heap.size w1 v) := fun u hb =>
      (refshut_any S u (by omega)).mono fun r v ⟨h1, h2⟩ => ⟨h1, hb.trans (h2.mono hb.size)⟩
    go_wp2_with fail
    have gx : X.length ≤ 1010 := by omega
    have gy : Y.length ≤ 1010 := by omega
    have gz : Z.length ≤ 1010 := by omega
    have hA1 : ∀ u : World, (Op.stringOp .add ⟨X.toArray⟩ ⟨Y.toArray⟩).run Try.prog u = .ok (.string ⟨XY.toArray⟩) u := fun u => by rw [run_string_add_sum u _ _ (by simp [ByteArray.size]; omega), q1]
    have hA2 : ∀ u : World, (Op.stringOp .add ⟨XY.toArray⟩ ⟨Z.toArray⟩).run Try.prog u = .ok (.string ⟨S.toArray⟩) u := fun u => by rw [run_string_add_sum u _ _ (by simp [ByteArray.size]; omega), q2]
    clear p1 H1 hx1 hx2 hx3 q1 q2
    have hbS : Below w1.heap.size w1 w1.drew := (Below.refl _ _).drew
    go_region_held3 (fun u => Below w1.heap.size w1 u ∧ u.cell? ⟨w.heap.size, 0, none⟩ = some (.slice A0 n0 c0) ∧ u.cell? ⟨w.heap.size, 1, none⟩ = some (.slice A1 n1 c1) ∧ u.cell? ⟨w.heap.size, 2, none⟩ = some (.slice A2 n2 c2)) (first | exact ⟨hbS, P1.out _ hbS⟩ | exact ⟨(Below.refl _ _).drew, P1.out _ (Below.refl _ _).drew⟩) (first | (go_at_call 17; ((with_reducible refine (C0.out _ hbS).mono ?_); rintro r u ⟨rfl, hbu⟩; clear hbS; have hbS := hbu; clear hbu)) | (go_at_call 17; ((with_reducible refine (C1.out _ hbS).mono ?_); rintro r u ⟨rfl, hbu⟩; clear hbS; have hbS := hbu; clear hbu)) | (go_at_call 17; ((with_reducible refine (C2.out _ hbS).mono ?_); rintro r u ⟨rfl, hbu⟩; clear hbS; have hbS := hbu; clear hbu)) | (go_at_call 23; ((with_reducible refine (C3.out _ hbS).mono ?_); rintro r u ⟨rfl, hbu⟩; clear hbS; have hbS := hbu; clear hbu)))
    all_goals
      go_wp2
      go_ret2
      exact ⟨rfl, b1.trans (hbS.mono b1.size)⟩
end Go.Proofs.Ythpngcfggnhdjaa
