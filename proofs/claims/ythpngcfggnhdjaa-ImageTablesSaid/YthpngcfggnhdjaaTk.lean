/- The walk of ImageTables. -/
import Derived.Test.YthpngcfggnhdjaaTj
namespace Go.Proofs.Ythpngcfggnhdjaa
open Go.RowKit Go.Proofs.Img

set_option maxRecDepth 100000 in
set_option maxHeartbeats 4000000 in
theorem wk_tables (A A' : Option Addr) (n c n' c' : Nat) (ws : List Int) (ss : List (List Int)) (w : World) (hT : Tab w w.heap.size A n c A' n' c' ws ss) (iw : ∀ x ∈ ws, I64 x) (is : ∀ l ∈ ss, ∀ x ∈ l, I64 x) (hn : n ≤ 1000000000000000) (hn' : n' ≤ 9223372036854775807) (hs : ∀ i, (stg ss i).length ≤ 9223372036854775807) :
    Calls Try.prog 12 #[.agg #[.slice A n c, .slice A' n' c']] w fun e w' => e = .returned (.bool true) ∧ Below w.heap.size w w' := by
  have b0 := newBl w (.cells #[.slice A n c, .slice A' n' c'] 51)
  have p0 := Blk.new w 51 #[.slice A n c, .slice A' n' c']
  have T0 := Lib.hid (hT.stay b0)
  have Iw := Lib.hid iw
  have Is := Lib.hid is
  have Hs := Lib.hid hs
  clear hT iw is hs
  have g0 := p0.cell 0
  have g1 := p0.cell 1
  go_enter Try.func12, Try.ntmps12
  go_wp2_with fail
  clear g0 g1
  obtain ⟨W, hWW⟩ : ∃ W, W = w.alloc (.cells #[.slice A n c, .slice A' n' c'] 51) := ⟨_, rfl⟩
  rw [← hWW] at b0 p0 T0 ⊢
  clear hWW
  refine (fewT_any A A' n c n' c' ws ss W T0.out hn hn' Hs.out).mono ?_
  rintro x w1 ⟨⟨r, rfl, hr⟩, bb⟩
  have p1 := stayBl p0 bb
  have b1 := b0.trans (bb.mono b0.size)
  have T1 := Lib.hid (T0.out.stay bb)
  clear bb p0 b0 T0
  cases r with
  | false =>
    clear hr
    go_wp2_with fail
    refine (alive_any _).mono ?_
    rintro e wz ⟨rfl, bz⟩
    go_wp2
    go_ret
    exact ⟨rfl, b1.trans (bz.mono b1.size)⟩
  | true =>
    have H1 : TabI w1 A n c A' n' c' ws ss := ⟨T1.out, Iw.out, Is.out, hr rfl⟩
    have H1 := Lib.hid H1
    obtain ⟨m0, m1⟩ := H1.out.n_le
    clear hr T1 hn hn'
    obtain ⟨s, e, hW⟩ : ∃ s e, (okT ws ss ∧ s = shutB (tabB ws ss) ∧ e = (0 : Int)) ∨ (¬ okT ws ss ∧ s = [] ∧ e = 11) := by
      by_cases ho : okT ws ss
      · exact ⟨_, _, Or.inl ⟨ho, rfl, rfl⟩⟩
      · exact ⟨_, _, Or.inr ⟨ho, rfl, rfl⟩⟩
    have HW := Lib.hid hW
    clear hW
    have k0 := p1.cell 0
    have k1 := p1.cell 1
    go_wp2_with fail
    clear k0 k1
    refine (tableW_any A A' n c n' c' ws ss s e w1 H1.out HW.out).mono ?_
    rintro x w2 ⟨rfl, hb2⟩
    have p2 := stayBl p1 hb2
    have b2 := b1.trans (hb2.mono b1.size)
    have H2 := Lib.hid (H1.out.stay hb2)
    clear p1 b1 H1 hb2
    have k0 := p2.cell 0
    have k1 := p2.cell 1
    go_wp2_with fail
    clear k0 k1
    refine (reftableW_any A A' n c n' c' ws ss s e w2 H2.out HW.out).mono ?_
    rintro x w3 ⟨rfl, hb3⟩
    have p3 := stayBl p2 hb3
    have b3 := b2.trans (hb3.mono b2.size)
    have H3 := Lib.hid (H2.out.stay hb3)
    clear p2 b2 H2 hb3
    rcases HW.out with ⟨hok, hS, rfl⟩ | ⟨hno, hS, rfl⟩
    · have HR := Lib.hid (table_back ws ss Iw.out (by have := H3.out.few.w; omega) (fun l hl => ⟨Is.out l hl, by have := H3.out.few.s l hl; omega⟩) hok)
      rw [← hS] at HR
      have hsl : s.length ≤ 200000 := by rw [hS, fnv_bnd, tabB, List.length_append]; have := H3.out.few.len; omega
      have hS' := Lib.hid hS
      clear hS hok HW
      go_wp2_with fail
      refine (readTable_any s ⟨ws, ss⟩ 0 _ (by omega) HR.out).mono ?_
      rintro x w4 ⟨B, d, B', d', rfl, U1, hb4⟩
      have hl := H3.out.tab.len
      have U1' : Tab w4 w4.heap.size B n d B' n' d' ws ss := by rw [hl.1, hl.2] at U1; exact U1
      clear U1
      rw [show (Tt.mk ws ss).ws.length = n from hl.1, show (Tt.mk ws ss).ss.length = n' from hl.2]
      clear hl
      have bn := newBl w4 (.cells #[.slice B n d, .slice B' n' d'] 51)
      have q5 := Blk.new w4 51 #[.slice B n d, .slice B' n' d']
      have p4 := stayBl p3 hb4
      have p5 := stayBl p4 bn
      have b4 := b3.trans (hb4.mono b3.size)
      have b5 := b4.trans (bn.mono b4.size)
      have T5 := Lib.hid (((H3.out.stay hb4).stay bn).tab)
      have U5 := Lib.hid (U1'.stay bn)
      have Hs5 := Lib.hid (show ∀ i, (stg ss i).length ≤ 1000000 from fun i => by have := H3.out.s_le i; omega)
      clear p3 p4 b3 b4 H3 U1' hb4 bn
      have k0 := p5.cell 0
      have k1 := p5.cell 1
      have j0 := q5.cell 0
      have j1 := q5.cell 1
      go_wp2_with fail
      clear k0 k1 j0 j1
      obtain ⟨W5, hW5⟩ : ∃ W, W = w4.alloc (.cells #[.slice B n d, .slice B' n' d'] 51) := ⟨_, rfl⟩
      rw [← hW5] at q5 p5 b5 T5 U5 ⊢
      clear hW5
      refine (sameTables B B' A A' n n' d d' c c' ws ss W5 U5.out T5.out (by omega) (by omega) Hs5.out).mono ?_
      rintro x w6 ⟨rfl, hb6⟩
      have b6 := b5.trans (hb6.mono b5.size)
      go_wp2_with fail
      refine (alive_any _).mono ?_
      rintro x wz ⟨rfl, bz⟩
      go_wp2
      go_ret
      exact ⟨rfl, b6.trans (bz.mono b6.size)⟩
    · clear hno hS HW
      go_wp2_with fail
      refine (alive_any _).mono ?_
      rintro e wz ⟨rfl, bz⟩
      go_wp2
      go_ret
      exact ⟨rfl, b3.trans (bz.mono b3.size)⟩
end Go.Proofs.Ythpngcfggnhdjaa
