/- The walk of ImagePools. -/
import Derived.Test.YthpngcfggnhdjaaPlP
namespace Go.Proofs.Ythpngcfggnhdjaa
open Go.RowKit Go.Proofs.Img

set_option maxRecDepth 100000 in
set_option maxHeartbeats 4000000 in
theorem wk_pools (A0 A1 A2 : Option Addr) (n0 c0 n1 c1 n2 c2 : Nat) (x y z : List Int) (w : World) (r0 : Reads w w.heap.size 1 A0 n0 (x.map iv)) (r1 : Reads w w.heap.size 1 A1 n1 (y.map iv)) (r2 : Reads w w.heap.size 1 A2 n2 (z.map iv))
    (i0 : ∀ a ∈ x, I64 a) (i1 : ∀ a ∈ y, I64 a) (i2 : ∀ a ∈ z, I64 a) :
    Calls Try.prog 10 #[.agg #[.slice A0 n0 c0, .slice A1 n1 c1, .slice A2 n2 c2]] w fun e w' => e = .returned (.bool true) ∧ Below w.heap.size w w' := by
  obtain rfl : x.length = n0 := by have := r0.1; simpa using this
  obtain rfl : y.length = n1 := by have := r1.1; simpa using this
  obtain rfl : z.length = n2 := by have := r2.1; simpa using this
  have b0 := newBl w (.cells #[.slice A0 x.length c0, .slice A1 y.length c1, .slice A2 z.length c2] 42)
  have p0 := Blk.new w 42 #[.slice A0 x.length c0, .slice A1 y.length c1, .slice A2 z.length c2]
  cases hsm : smallB x.length y.length z.length with
  | false =>
    have Hsm := Lib.hid hsm
    clear hsm i0 i1 i2 r0 r1 r2
    go_enter Try.func10, Try.ntmps10
    go_wp2_with fail
    refine (small_any A0 A1 A2 _ c0 _ c1 _ c2 _).mono ?_
    rintro r w1 ⟨rfl, hb1⟩
    rw [Hsm.out]
    have b1 := b0.trans (hb1.mono b0.size)
    go_wp2_with fail
    refine (alive_any _).mono ?_
    rintro r wz ⟨rfl, bz⟩
    go_wp2
    go_ret
    exact ⟨rfl, b1.trans (bz.mono b1.size)⟩
  | true =>
    have hlen : x.length ≤ 100 ∧ y.length ≤ 100 ∧ z.length ≤ 100 := by simpa [smallB] using hsm
    have h : PlIn w A0 A1 A2 x.length y.length z.length x y z := ⟨r0, r1, r2, i0, i1, i2, hlen.1, hlen.2.1, hlen.2.2⟩
    have Hsm := Lib.hid hsm
    obtain ⟨m0, m1, m2⟩ := hlen
    have hback := pool_back ⟨x, y, z⟩ i0 i1 i2 (show x.length ≤ 1000000 by omega) (show y.length ≤ 1000000 by omega) (show z.length ≤ 1000000 by omega)
    have hpl := poolB_len (x := x) (y := y) (z := z) m0 m1 m2
    have hsl := fnv_bnd (poolB ⟨x, y, z⟩)
    have H0 := Lib.hid (h.stay b0)
    clear hsm i0 i1 i2 r0 r1 r2 h
    have hcase : (∃ s, poolW ⟨x, y, z⟩ = (s, 11)) ∨ (∃ s, poolW ⟨x, y, z⟩ = (s, 0) ∧ poolR s = (⟨x, y, z⟩, 0) ∧ s.length ≤ 5000) := by
      unfold poolW
      cases hok : Pl.ok ⟨x, y, z⟩ with
      | false => exact .inl ⟨[], by simp⟩
      | true => exact .inr ⟨shutB (poolB ⟨x, y, z⟩), by simp, hback hok, by omega⟩
    clear hback hpl hsl
    rcases hcase with ⟨s, hW⟩ | ⟨s, hW, hR, hsl⟩
    · have HW := Lib.hid hW
      clear hW
      go_enter Try.func10, Try.ntmps10
      go_wp2_with fail
      obtain ⟨W, hWW⟩ : ∃ W, W = w.alloc (.cells #[.slice A0 x.length c0, .slice A1 y.length c1, .slice A2 z.length c2] 42) := ⟨_, rfl⟩
      rw [← hWW] at b0 p0 H0 ⊢
      clear hWW
      refine (small_any A0 A1 A2 _ c0 _ c1 _ c2 W).mono ?_
      rintro r w1 ⟨rfl, hb1⟩
      rw [Hsm.out]
      have b1 := b0.trans (hb1.mono b0.size)
      have p1 := stayBl p0 hb1
      have H1 := Lib.hid (H0.out.stay hb1)
      clear hb1 b0 p0
      have k0 := p1.cell 0
      have k1 := p1.cell 1
      have k2 := p1.cell 2
      go_wp2_with fail
      clear k0 k1 k2
      refine (pool_any A0 A1 A2 _ c0 _ c1 _ c2 x y z s 11 w1 H1.out HW.out).mono ?_
      rintro r w2 ⟨rfl, hb2⟩
      have b2 := b1.trans (hb2.mono b1.size)
      have p2 := stayBl p1 hb2
      have H2 := Lib.hid (H1.out.stay hb2)
      clear hb2 b1 p1
      have k0 := p2.cell 0
      have k1 := p2.cell 1
      have k2 := p2.cell 2
      go_wp2_with fail
      clear k0 k1 k2
      refine (refpoolW_any A0 A1 A2 _ c0 _ c1 _ c2 x y z s 11 w2 H2.out HW.out).mono ?_
      rintro r w3 ⟨rfl, hb3⟩
      have b3 := b2.trans (hb3.mono b2.size)
      have p3 := stayBl p2 hb3
      have H3 := Lib.hid (H2.out.stay hb3)
      clear hb3 b2 p2
      go_wp2_with fail
      refine (alive_any _).mono ?_
      rintro r wz ⟨rfl, bz⟩
      go_wp2
      go_ret
      exact ⟨rfl, b3.trans (bz.mono b3.size)⟩
    · have HW := Lib.hid hW
      have HR := Lib.hid hR
      clear hW hR
      go_enter Try.func10, Try.ntmps10
      go_wp2_with fail
      obtain ⟨W, hWW⟩ : ∃ W, W = w.alloc (.cells #[.slice A0 x.length c0, .slice A1 y.length c1, .slice A2 z.length c2] 42) := ⟨_, rfl⟩
      rw [← hWW] at b0 p0 H0 ⊢
      clear hWW
      refine (small_any A0 A1 A2 _ c0 _ c1 _ c2 W).mono ?_
      rintro r w1 ⟨rfl, hb1⟩
      rw [Hsm.out]
      have b1 := b0.trans (hb1.mono b0.size)
      have p1 := stayBl p0 hb1
      have H1 := Lib.hid (H0.out.stay hb1)
      clear hb1 b0 p0
      have k0 := p1.cell 0
      have k1 := p1.cell 1
      have k2 := p1.cell 2
      go_wp2_with fail
      clear k0 k1 k2
      refine (pool_any A0 A1 A2 _ c0 _ c1 _ c2 x y z s 0 w1 H1.out HW.out).mono ?_
      rintro r w2 ⟨rfl, hb2⟩
      have b2 := b1.trans (hb2.mono b1.size)
      have p2 := stayBl p1 hb2
      have H2 := Lib.hid (H1.out.stay hb2)
      clear hb2 b1 p1
      have k0 := p2.cell 0
      have k1 := p2.cell 1
      have k2 := p2.cell 2
      go_wp2_with fail
      clear k0 k1 k2
      refine (refpoolW_any A0 A1 A2 _ c0 _ c1 _ c2 x y z s 0 w2 H2.out HW.out).mono ?_
      rintro r w3 ⟨rfl, hb3⟩
      have b3 := b2.trans (hb3.mono b2.size)
      have p3 := stayBl p2 hb3
      have H3 := Lib.hid (H2.out.stay hb3)
      clear hb3 b2 p2
      go_wp2_with fail
      refine (readPool_any s ⟨x, y, z⟩ 0 w3 (by omega) HR.out).mono ?_
      rintro r w4 ⟨B0, d0, B1, d1, B2, d2, rfl, s0, s1, s2, hb4⟩
      simp only at s0 s1 s2
      have b4 := b3.trans (hb4.mono b3.size)
      have p4 := stayBl p3 hb4
      have H4 := Lib.hid (H3.out.stay hb4)
      have bn := newBl w4 (.cells #[.slice B0 x.length d0, .slice B1 y.length d1, .slice B2 z.length d2] 42)
      have q4 := Blk.new w4 42 #[.slice B0 x.length d0, .slice B1 y.length d1, .slice B2 z.length d2]
      have p5 := stayBl p4 bn
      have b5 := b4.trans (bn.mono b4.size)
      have H5 := Lib.hid (H4.out.stay bn)
      have t0 := stayR s0 bn
      have t1 := stayR s1 bn
      have t2 := stayR s2 bn
      clear hb4 b3 p3 b4 p4 bn s0 s1 s2
      have k0 := p5.cell 0
      have k1 := p5.cell 1
      have k2 := p5.cell 2
      have j0 := q4.cell 0
      have j1 := q4.cell 1
      have j2 := q4.cell 2
      go_wp2_with fail
      clear k0 k1 k2 j0 j1 j2
      obtain ⟨W5, hWW⟩ : ∃ W, W = w4.alloc (.cells #[.slice B0 x.length d0, .slice B1 y.length d1, .slice B2 z.length d2] 42) := ⟨_, rfl⟩
      rw [← hWW] at q4 p5 b5 H5 t0 t1 t2 ⊢
      clear hWW
      refine (samePools A0 A1 A2 B0 B1 B2 _ _ _ c0 c1 c2 d0 d1 d2 x y z W5 H5.out.r0 H5.out.r1 H5.out.r2 t0 t1 t2 (by omega) (by omega) (by omega)).mono ?_
      rintro r w6 ⟨rfl, hb6⟩
      have b6 := b5.trans (hb6.mono b5.size)
      go_wp2_with fail
      refine (alive_any _).mono ?_
      rintro r wz ⟨rfl, bz⟩
      go_wp2
      go_ret
      exact ⟨rfl, b6.trans (bz.mono b6.size)⟩
end Go.Proofs.Ythpngcfggnhdjaa
