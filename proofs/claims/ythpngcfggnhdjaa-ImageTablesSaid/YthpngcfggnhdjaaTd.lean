/- image.ReadTable. -/
import Derived.Test.YthpngcfggnhdjaaTc
namespace Go.Proofs.Ythpngcfggnhdjaa
open Go.RowKit Go.Proofs.Img

theorem call49 (caps : Array Value) (w : World) : (callFunc 49 caps).run Try.prog w = .ok (.enter 49 caps) w := by
  simp [go_sem]
def TPost (t : Tt) (e : Int) (w : World) (x : Ending) (w' : World) : Prop :=
  ∃ A c A' c', x = .returned (.tuple #[.agg #[.slice A t.ws.length c, .slice A' t.ss.length c'], .int .i64 e]) ∧ Tab w' w'.heap.size A t.ws.length c A' t.ss.length c' t.ws t.ss ∧ Below w.heap.size w w'
theorem tab_none (w : World) (B : Nat) : Tab w B none 0 0 none 0 0 [] [] := ⟨Reads.none_, Nat.le_refl _, [], Reads.none_, rfl, fun i xs h => by simp at h⟩
theorem tpost_none {e : Int} {w w' : World} (hb : Below w.heap.size w w') : TPost Tt.none e w (.returned (.tuple #[.agg #[.slice none 0 0, .slice none 0 0], .int .i64 e])) w' :=
  ⟨none, 0, none, 0, rfl, tab_none _ _, hb⟩

set_option maxRecDepth 100000 in
set_option maxHeartbeats 4000000 in
theorem readTable_open (s body : List UInt8) (c : Int) (w : World) (hl : s.length ≤ 1000000) (hO : openR s = (body, c)) (hc : c ≠ 0) :
    Calls Try.prog 30 #[.string ⟨s.toArray⟩] w (TPost Tt.none c w) := by
  have HO := Lib.hid hO
  have hc' : (c != 0) = true := by simp; exact hc
  clear hO hc
  have bW0 := newBl w (.cells #[.slice none 0 0, .slice none 0 0] 51)
  have hR0 := Blk.new w 51 #[.slice none 0 0, .slice none 0 0]
  have hs0 : w.heap.size + 1 = (w.alloc (.cells #[.slice none 0 0, .slice none 0 0] 51)).heap.size := by simp
  have HS0 := Lib.hid hs0
  clear hs0
  go_enter Try.func30, Try.ntmps30
  go_wp2_with fail
  obtain ⟨W0, hW0⟩ : ∃ W, W = w.alloc (.cells #[.slice none 0 0, .slice none 0 0] 51) := ⟨_, rfl⟩
  rw [← hW0] at bW0 hR0 HS0 ⊢
  clear hW0
  refine (open_any s W0 hl).mono ?_
  rintro x w1 ⟨rfl, hb1⟩
  rw [HO.out]
  have hR1 := stayBl hR0 hb1
  have bW1 := bW0.trans (hb1.mono bW0.size)
  clear hR0 bW0 hb1
  have hB2 := Blk.new w1 9 #[.string ⟨body.toArray⟩]
  have hR2 := hR1.alloc (.cells #[.string ⟨body.toArray⟩] 9)
  have bW2 := bW1.alloc bW1.size (.cells #[.string ⟨body.toArray⟩] 9)
  clear hB2
  have hF := hR2
  have z0 := hF.cell 0
  have z1 := hF.cell 1
  have f0 := hF.frozen 0
  have f1 := hF.frozen 1
  have hF2 := (hF.set_ 0 (.slice none 0 0)).set_ 1 (.slice none 0 0)
  have bF := ((bW2.setCell (p := ⟨w.heap.size, 0, none⟩) (by simp) (.slice none 0 0)).setCell (p := ⟨w.heap.size, 1, none⟩) (by simp) (.slice none 0 0))
  have D := Lib.hid (And.intro (hF2.cell 0) (hF2.cell 1))
  have BF := Lib.hid bF
  clear bF hF2
  go_wp2
  obtain ⟨d0, d1⟩ := D.out
  have bF := BF.out
  clear D BF z0 z1 f0 f1 hF
  generalize World.setCell (World.setCell _ ⟨w.heap.size, 0, none⟩ (.slice none 0 0)) ⟨w.heap.size, 1, none⟩ (.slice none 0 0) = V at d0 d1 bF ⊢
  exact bodyPost_ret (v := .tuple #[.agg #[.slice none 0 0, .slice none 0 0], .int .i64 c]) (by simp [results, Try.results30, go_sem] at d0 d1 ⊢; simp [d0, d1]) rfl (tpost_none bF)

set_option maxRecDepth 100000 in
set_option maxHeartbeats 4000000 in
theorem readTable_body (s body : List UInt8) (t : Tt) (c : Int) (w : World) (hl : s.length ≤ 1000000) (hbl : body.length ≤ 1000000) (hO : openR s = (body, 0)) (hB : (bodyT body = .error c ∧ t = Tt.none) ∨ ∃ q, bodyT body = .ok q ∧ ((q.ok ∧ t = q ∧ c = 0) ∨ (¬ q.ok ∧ t = Tt.none ∧ c = 11))) :
    Calls Try.prog 30 #[.string ⟨s.toArray⟩] w (TPost t c w) := by
  have HO := Lib.hid hO
  have HB := Lib.hid hB
  clear hO hB
  have bW0 := newBl w (.cells #[.slice none 0 0, .slice none 0 0] 51)
  have hR0 := Blk.new w 51 #[.slice none 0 0, .slice none 0 0]
  have hs0 : w.heap.size + 1 = (w.alloc (.cells #[.slice none 0 0, .slice none 0 0] 51)).heap.size := by simp
  have HS0 := Lib.hid hs0
  clear hs0
  go_enter Try.func30, Try.ntmps30
  go_wp2_with fail
  obtain ⟨W0, hW0⟩ : ∃ W, W = w.alloc (.cells #[.slice none 0 0, .slice none 0 0] 51) := ⟨_, rfl⟩
  rw [← hW0] at bW0 hR0 HS0 ⊢
  clear hW0
  refine (open_any s W0 hl).mono ?_
  rintro x w1 ⟨rfl, hb1⟩
  rw [HO.out]
  have hR1 := stayBl hR0 hb1
  have bW1 := bW0.trans (hb1.mono bW0.size)
  clear hR0 bW0 hb1
  have hB2 := Blk.new w1 9 #[.string ⟨body.toArray⟩]
  have hR2 := hR1.alloc (.cells #[.string ⟨body.toArray⟩] 9)
  have bW2 := bW1.alloc bW1.size (.cells #[.string ⟨body.toArray⟩] 9)
  have hP3 := Blk.new (w1.alloc (.cells #[.string ⟨body.toArray⟩] 9)) 51 #[.slice none 0 0, .slice none 0 0]
  have hB3 := hB2.alloc (.cells #[.slice none 0 0, .slice none 0 0] 51)
  have hR3 := hR2.alloc (.cells #[.slice none 0 0, .slice none 0 0] 51)
  have bW3 := bW2.alloc bW2.size (.cells #[.slice none 0 0, .slice none 0 0] 51)
  have hz3 : ((w1.alloc (.cells #[.string ⟨body.toArray⟩] 9)).alloc (.cells #[.slice none 0 0, .slice none 0 0] 51)).heap.size = w1.heap.size + 2 := by simp
  have hq3 : (w1.alloc (.cells #[.string ⟨body.toArray⟩] 9)).heap.size = w1.heap.size + 1 := by simp
  rw [hq3] at hP3
  have hlt1 := hR1.lt
  clear hR2 hB2 bW2 hR1 hq3
  have hmf : ∀ (fn : Fn) (first cap : Array Value) (w : World), (Instr.makeFunc fn first cap).run Try.prog w = .ok (.func fn first cap) w := fun _ _ _ _ => rfl
  have HZ3 := Lib.hid hz3
  clear hz3
  go_wp2_with fail
  clear hmf
  obtain ⟨W3, hW3⟩ : ∃ W, W = (w1.alloc (.cells #[.string ⟨body.toArray⟩] 9)).alloc (.cells #[.slice none 0 0, .slice none 0 0] 51) := ⟨_, rfl⟩
  rw [← hW3] at hP3 hB3 hR3 bW3 HZ3 ⊢
  clear hW3
  have hP4 := hP3.alloc (.cells #[.int .i64 0] 30)
  have hB4 := hB3.alloc (.cells #[.int .i64 0] 30)
  have hE4 := Blk.new W3 30 #[.int .i64 0]
  have hR4 := hR3.alloc (.cells #[.int .i64 0] 30)
  have bW4 := bW3.alloc bW3.size (.cells #[.int .i64 0] 30)
  have hcl := clos49_any body w1.heap.size (w1.heap.size + 1) _ hB4 hP4 hbl
  rcases HB.out with ⟨hB, rfl⟩ | ⟨q, hB, hq⟩
  · have hc' : (c != 0) = true := by simp; exact bodyT_code hB
    unfold CPost at hcl
    rw [hB] at hcl
    refine (read_err 49 #[.pointer (some ⟨w1.heap.size, 0, none⟩), .pointer (some ⟨w1.heap.size + 1, 0, none⟩)] W3 c (fun u => (W3.alloc (.cells #[.int .i64 0] 30)).grownBy u (some (w1.heap.size + 1))) (fun w => call49 _ w) (hcl.mono fun e u ⟨h1, h2⟩ => ⟨h1, hE4.grown h2 (by intro e; injection e with e; have := HZ3.out; omega), h2⟩)).mono ?_
    rintro x w5 ⟨rfl, u, hu, hg5⟩
    have hR9 := (hR4.grown hu (by intro e; injection e with e; omega)).grown hg5 (by intro e; injection e with e; have := HZ3.out; omega)
    have b9 := (bW4.trans (below_of_grown hu (by have := bW1.size; omega) bW4.size)).trans (below_of_grown hg5 (by have := HZ3.out; have := bW1.size; omega) (by have := hu.size; have := bW4.size; omega))
    clear hcl hu hg5 hP3 hB3 hR3 hP4 hB4 hE4 hR4 bW3 bW4 HB hB
    have hF := hR9
    have z0 := hF.cell 0
    have z1 := hF.cell 1
    have f0 := hF.frozen 0
    have f1 := hF.frozen 1
    have hF2 := (hF.set_ 0 (.slice none 0 0)).set_ 1 (.slice none 0 0)
    have bF := ((b9.setCell (p := ⟨w.heap.size, 0, none⟩) (by simp) (.slice none 0 0)).setCell (p := ⟨w.heap.size, 1, none⟩) (by simp) (.slice none 0 0))
    have D := Lib.hid (And.intro (hF2.cell 0) (hF2.cell 1))
    have BF := Lib.hid bF
    clear bF hF2
    go_wp2
    obtain ⟨d0, d1⟩ := D.out
    have bF := BF.out
    clear D BF z0 z1 f0 f1 hF
    generalize World.setCell (World.setCell _ ⟨w.heap.size, 0, none⟩ (.slice none 0 0)) ⟨w.heap.size, 1, none⟩ (.slice none 0 0) = V at d0 d1 bF ⊢
    exact bodyPost_ret (v := .tuple #[.agg #[.slice none 0 0, .slice none 0 0], .int .i64 c]) (by simp [results, Try.results30, go_sem] at d0 d1 ⊢; simp [d0, d1]) rfl (tpost_none bF)
  · unfold CPost at hcl
    rw [hB] at hcl
    obtain ⟨hf1, hf2, hf3, hf4⟩ := bodyT_facts hB
    have Hqs := Lib.hid (show ∀ i, (stg q.ss i).length ≤ 1000000000 from fun i => stg_mem (p := fun l => l.length ≤ 1000000000) (fun l hl => by have := (hf4 l hl).2; omega) (by simp))
    have Hqw := Lib.hid (show ∀ i, ∀ x ∈ stg q.ss i, W64 x from fun i => stg_mem (p := fun l => ∀ x ∈ l, W64 x) (fun l hl x hx => W64_I64 ((hf4 l hl).1 x hx)) (fun x hx => by cases hx))
    have hqn : q.ws.length ≤ 1000000 := by omega
    have hqs : q.ss.length ≤ 1000001 := by omega
    have Hq := Lib.hid hq
    clear hf1 hf2 hf3 hf4 hq HB hB
    have hz4 : (W3.alloc (.cells #[.int .i64 0] 30)).heap.size = w1.heap.size + 3 := by have := HZ3.out; simp; omega
    refine (read_ok 49 #[.pointer (some ⟨w1.heap.size, 0, none⟩), .pointer (some ⟨w1.heap.size + 1, 0, none⟩)] W3 (fun u => ∃ A d v vs, Blk u (w1.heap.size + 1) 51 #[.slice A q.ws.length d, v] ∧ q.ws.length ≤ d ∧ u.ownsRow (w1.heap.size + 4) 26 1 v q.ss.length vs ∧ Capped vs ∧ RowsIn u (w1.heap.size + 4) vs q.ss v.ownBlock ∧ RowsIn u (w1.heap.size + 4) [.slice A q.ws.length d] [q.ws] v.ownBlock ∧ (W3.alloc (.cells #[.int .i64 0] 30)).grownBy u (some (w1.heap.size + 1))) (fun w => call49 _ w) (hcl.mono fun e u ⟨h1, A, d, v, vs, g1, g2, g3, g4, g5, g6, g7⟩ => ⟨h1, hE4.grown g7 (by intro e; injection e with e; have := HZ3.out; omega), A, d, v, vs, g1, g2, by rw [hz4] at g3; exact g3, g4, by rw [hz4] at g5; exact g5, by rw [hz4] at g6; exact g6, g7⟩)).mono ?_
    rintro x w5 ⟨rfl, u, ⟨A, d, v, vs, g1, g2, g3, g4, g5, g6, g7⟩, hg5⟩
    have hR9 := (hR4.grown g7 (by intro e; injection e with e; omega)).grown hg5 (by intro e; injection e with e; have := HZ3.out; omega)
    have hP9 := g1.grown hg5 (by intro e; injection e with e; have := HZ3.out; omega)
    have o9 := own_kept g3 hg5 (by have := HZ3.out; omega)
    have r9 := g5.far hg5 (by have := HZ3.out; omega)
    have s9 := g6.far hg5 (by have := HZ3.out; omega)
    have b9 := (bW4.trans (below_of_grown g7 (by have := bW1.size; omega) bW4.size)).trans (below_of_grown hg5 (by have := HZ3.out; have := bW1.size; omega) (by have := g7.size; have := bW4.size; omega))
    have hsz9 : w1.heap.size + 1 < w5.heap.size := hP9.lt
    clear hcl g1 g3 g5 g6 g7 hg5 hP3 hB3 hR3 hP4 hB4 hE4 hR4 bW3 bW4 hz4
    obtain ⟨A', d', rfl, hT⟩ := tab_of (t := q) s9 g2 o9 rfl r9 g4
    have y0 := hP9.cell 0
    have y1 := hP9.cell 1
    go_wp2_with fail
    clear y0 y1
    refine (validT_any A A' q.ws.length d q.ss.length d' q.ws q.ss w5 hT (by omega) (by omega) Hqs.out Hqw.out).mono ?_
    rintro x w6 ⟨⟨r, rfl, hr⟩, bb⟩
    have hR10 := stayBl hR9 bb
    have hP10 := stayBl hP9 bb
    have b10 := b9.trans (bb.mono b9.size)
    rcases Hq.out with ⟨hok, rfl, rfl⟩ | ⟨hno, rfl, rfl⟩
    · have hrt : r = true := hr.2 hok
      clear hr hok Hq
      subst hrt
      have y0 := hP10.cell 0
      have y1 := hP10.cell 1
      have z0 := hR10.cell 0
      have z1 := hR10.cell 1
      have f0 := hR10.frozen 0
      have f1 := hR10.frozen 1
      have hF2 := (hR10.set_ 0 (.slice A t.ws.length d)).set_ 1 (.slice A' t.ss.length d')
      have bF := ((b10.setCell (p := ⟨w.heap.size, 0, none⟩) (by simp) (.slice A t.ws.length d)).setCell (p := ⟨w.heap.size, 1, none⟩) (by simp) (.slice A' t.ss.length d'))
      have o10 := ownsRow_setCell_below (ownsRow_setCell_below (own_below o9 bb) (a := ⟨w.heap.size, 0, none⟩) (by have := bW1.size; simp; omega) (.slice A t.ws.length d)) (a := ⟨w.heap.size, 1, none⟩) (by have := bW1.size; simp; omega) (.slice A' t.ss.length d')
      have r10 := ((r9.stay bb).set_ (b := w.heap.size) (i := 0) (by have := bW1.size; omega) (.slice A t.ws.length d)).set_ (b := w.heap.size) (i := 1) (by have := bW1.size; omega) (.slice A' t.ss.length d')
      have s10 := ((s9.stay bb).set_ (b := w.heap.size) (i := 0) (by have := bW1.size; omega) (.slice A t.ws.length d)).set_ (b := w.heap.size) (i := 1) (by have := bW1.size; omega) (.slice A' t.ss.length d')
      obtain ⟨A'', d'', e'', hT2⟩ := tab_of (t := t) s10 g2 o10 rfl r10 g4
      injection e'' with e1 e2 e3
      subst e1
      subst e3
      have D := Lib.hid (And.intro (hF2.cell 0) (hF2.cell 1))
      have BF := Lib.hid bF
      have TT := Lib.hid hT2
      clear bF hF2 hR10 hP10 b10 hP9 hR9 b9 hT hT2 o9 r9 s9 o10 r10 s10 e2
      go_wp2
      obtain ⟨d0, d1⟩ := D.out
      have bF := BF.out
      have hT2 := TT.out
      clear D BF TT y0 y1 z0 z1 f0 f1
      generalize World.setCell (World.setCell _ ⟨w.heap.size, 0, none⟩ (.slice A t.ws.length d)) ⟨w.heap.size, 1, none⟩ (.slice A' t.ss.length d') = V at d0 d1 bF hT2 ⊢
      exact bodyPost_ret (v := .tuple #[.agg #[.slice A t.ws.length d, .slice A' t.ss.length d'], .int .i64 0]) (by simp [results, Try.results30, go_sem] at d0 d1 ⊢; simp [d0, d1]) rfl ⟨A, d, A', d', rfl, hT2, bF⟩
    · have hrf : r = false := by cases r with | true => exact absurd (hr.1 rfl) hno | false => rfl
      clear hr hno Hq
      subst hrf
      clear hP10 hP9 hR9 b9 hT o9 r9 s9
      have hF := hR10
      have z0 := hF.cell 0
      have z1 := hF.cell 1
      have f0 := hF.frozen 0
      have f1 := hF.frozen 1
      have hF2 := (hF.set_ 0 (.slice none 0 0)).set_ 1 (.slice none 0 0)
      have bF := ((b10.setCell (p := ⟨w.heap.size, 0, none⟩) (by simp) (.slice none 0 0)).setCell (p := ⟨w.heap.size, 1, none⟩) (by simp) (.slice none 0 0))
      have D := Lib.hid (And.intro (hF2.cell 0) (hF2.cell 1))
      have BF := Lib.hid bF
      clear bF hF2
      go_wp2
      obtain ⟨d0, d1⟩ := D.out
      have bF := BF.out
      clear D BF z0 z1 f0 f1 hF
      generalize World.setCell (World.setCell _ ⟨w.heap.size, 0, none⟩ (.slice none 0 0)) ⟨w.heap.size, 1, none⟩ (.slice none 0 0) = V at d0 d1 bF ⊢
      exact bodyPost_ret (v := .tuple #[.agg #[.slice none 0 0, .slice none 0 0], .int .i64 11]) (by simp [results, Try.results30, go_sem] at d0 d1 ⊢; simp [d0, d1]) rfl (tpost_none bF)

theorem readTable_any (s : List UInt8) (t : Tt) (e : Int) (w : World) (hl : s.length ≤ 1000000) (hR : TR s t e) : Calls Try.prog 30 #[.string ⟨s.toArray⟩] w (TPost t e w) := by
  rcases hR with ⟨body, hO, he, rfl⟩ | ⟨body, hO, hB⟩
  · exact readTable_open s body e w hl hO he
  · have hol := openR_len s
    rw [hO] at hol
    exact readTable_body s body t e w hl (by simp at hol; omega) hO hB
end Go.Proofs.Ythpngcfggnhdjaa
