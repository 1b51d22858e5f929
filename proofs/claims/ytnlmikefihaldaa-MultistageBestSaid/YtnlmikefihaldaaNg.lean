/- Widths of any length: Check and Build of both; what Best stands for. -/
import Derived.Test.YtnlmikefihaldaaNf
namespace Go.Proofs.Ytnlmikefihaldaa
open Go.RowKit

set_option maxRecDepth 100000 in
theorem validWidths_all (A : Option Addr) (n c : Nat) (l : List Int) (w : World) (h : Reads w w.heap.size 1 A n (l.map iv)) (hc : n ≤ c) :
    Calls Try.prog 42 #[.slice A n c] w fun e w' => e = .returned (.bool (decide (okW l))) ∧ w' = w := by
  by_cases h3 : n ≤ 3
  · exact validWidths_any A n c l w h hc (by omega)
  · have hl : l.length = n := by have := h.1; simpa using this
    have H := Lib.hid (show decide (okW l) = false from decide_eq_false (by intro ho; have := ho.1; have := ho.2.1; omega))
    have h1 : ¬ n < 1 := by omega
    have h4 : 3 < n := by omega
    clear hl h3 h
    go_enter Try.func42, Try.ntmps42
    go_wp2
    go_ret
    exact ⟨by rw [H.out]; rfl, rfl⟩
set_option maxRecDepth 100000 in
theorem bits_all (A : Option Addr) (n c : Nat) (l : List Int) (w : World) (h : Reads w w.heap.size 1 A n (l.map iv)) :
    Calls Try.prog 38 #[.slice A n c] w fun e w' => e = .returned (.int .i64 (bitsV l)) ∧ w' = w := by
  by_cases h3 : n ≤ 3
  · exact bits_any A n c l w h (by omega)
  · have hl : l.length = n := by have := h.1; simpa using this
    have H := Lib.hid (show bitsV l = 0 from if_neg (by intro ho; have := ho.1; have := ho.2.1; omega))
    have h1 : ¬ n < 1 := by omega
    have h4 : 3 < n := by omega
    clear hl h3 h
    go_enter Try.func38, Try.ntmps38
    go_wp2
    go_ret
    exact ⟨by rw [H.out]; rfl, rfl⟩
set_option maxRecDepth 100000 in
set_option maxHeartbeats 4000000 in
theorem check_all (A : Option Addr) (n c : Nat) (l : List (Int × Int × Int)) (A' : Option Addr) (n' c' : Nat) (ws : List Int) (w : World) (hr : Reads w w.heap.size 3 A n (l.flatMap spv)) (hr' : Reads w w.heap.size 1 A' n' (ws.map iv)) (hn : n ≤ 1000000) (hc' : n' ≤ c') :
    Calls Try.prog 14 #[.slice A n c, .slice A' n' c'] w fun e w' => ChkE e l ws ∧ Below w.heap.size w w' := by
  have HR := Lib.hid hr
  have HR' := Lib.hid hr'
  clear hr hr'
  go_enter Try.func14, Try.ntmps14
  go_wp2_with fail
  refine (validSpans_any A n c l w HR.out hn).mono ?_
  rintro e w1 ⟨⟨r, rfl, hr⟩, hb1⟩
  have Hb1 := Lib.hid hb1
  have Hr := Lib.hid hr
  clear hb1 hr
  cases r with
  | false =>
    have H := Lib.hid (show ChkR l ws 4 from .inl ⟨fun h => absurd (Hr.out.2 h) (by decide), rfl⟩)
    clear Hr
    go_wp2
    go_ret
    exact ⟨⟨4, rfl, H.out⟩, Hb1.out⟩
  | true =>
    have Hs := Lib.hid (Hr.out.1 rfl)
    clear Hr
    go_wp2_with fail
    refine (validWidths_all A' n' c' ws w1 ((HR'.out.below Hb1.out).more Hb1.out.size) hc').mono ?_
    rintro e w2 ⟨rfl, rfl⟩
    by_cases hw : okW ws
    · have H := Lib.hid (show ChkR l ws 0 from .inr (.inr ⟨Hs.out, hw, rfl⟩))
      rw [decide_eq_true hw]
      clear hw
      go_wp2
      go_ret
      exact ⟨⟨0, rfl, H.out⟩, Hb1.out⟩
    · have H := Lib.hid (show ChkR l ws 1 from .inr (.inl ⟨Hs.out, hw, rfl⟩))
      rw [decide_eq_false hw]
      clear hw
      go_wp2
      go_ret
      exact ⟨⟨1, rfl, H.out⟩, Hb1.out⟩
set_option maxRecDepth 100000 in
set_option maxHeartbeats 4000000 in
theorem rcheck_all (A : Option Addr) (n c : Nat) (l : List (Int × Int × Int)) (A' : Option Addr) (n' c' : Nat) (ws : List Int) (w : World) (hr : Reads w w.heap.size 3 A n (l.flatMap spv)) (hr' : Reads w w.heap.size 1 A' n' (ws.map iv)) (hn : n ≤ 1000000) :
    Calls Try.prog 37 #[.slice A n c, .slice A' n' c'] w fun e w' => ChkE e l ws ∧ Below w.heap.size w w' := by
  have HR := Lib.hid hr
  have HR' := Lib.hid hr'
  clear hr hr'
  go_enter Try.func37, Try.ntmps37
  go_wp2_with fail
  refine (rspans_any A n c l w HR.out hn).mono ?_
  rintro e w1 ⟨⟨r, rfl, hr⟩, hb1⟩
  have Hb1 := Lib.hid hb1
  have Hr := Lib.hid hr
  clear hb1 hr
  cases r with
  | false =>
    have H := Lib.hid (show ChkR l ws 4 from .inl ⟨fun h => absurd (Hr.out.2 h) (by decide), rfl⟩)
    clear Hr
    go_wp2
    go_ret
    exact ⟨⟨4, rfl, H.out⟩, Hb1.out⟩
  | true =>
    have Hs := Lib.hid (Hr.out.1 rfl)
    clear Hr
    go_wp2_with fail
    refine (bits_all A' n' c' ws w1 ((HR'.out.below Hb1.out).more Hb1.out.size)).mono ?_
    rintro e w2 ⟨rfl, rfl⟩
    by_cases hw : okW ws
    · have H := Lib.hid (show ChkR l ws 0 from .inr (.inr ⟨Hs.out, hw, rfl⟩))
      rw [bits_yes hw]
      have hs9 : 9 ≤ ws.sum := hw.2.2.2.1
      have hsz : (ws.sum == 0) = false := by simp; omega
      clear hw hs9
      go_wp2
      go_ret
      exact ⟨⟨0, rfl, H.out⟩, Hb1.out⟩
    · have H := Lib.hid (show ChkR l ws 1 from .inr (.inl ⟨Hs.out, hw, rfl⟩))
      rw [bits_no hw]
      clear hw
      go_wp2
      go_ret
      exact ⟨⟨1, rfl, H.out⟩, Hb1.out⟩

set_option maxRecDepth 100000 in
set_option maxHeartbeats 4000000 in
theorem build_all (A : Option Addr) (n c : Nat) (l : List (Int × Int × Int)) (A' : Option Addr) (m c' : Nat) (ws : List Int) (w : World) (hr : Reads w w.heap.size 3 A n (l.flatMap spv)) (hr' : Reads w w.heap.size 1 A' m (ws.map iv)) (hn : n ≤ 1000000) (hc' : m ≤ c') (hl : W64s l) :
    Calls Try.prog 12 #[.slice A n c, .slice A' m c'] w fun e w' => BuildE l ws m e w' ∧ Below w.heap.size w w' := by
  by_cases hm3 : m ≤ 1000000
  · exact build_any A n c l A' m c' ws w hr hr' hn hc' hm3 hl
  have hno : ¬ okW ws := fun h => by have h1 := h.2.1; have h2 := hr'.1; rw [List.length_map] at h2; omega
  have Hno := Lib.hid hno
  clear hm3 hno
  have Hr := Lib.hid hr
  have Hr' := Lib.hid hr'
  have Hl := Lib.hid hl
  clear hr hr' hl
  go_enter Try.func12, Try.ntmps12
  go_wp2_with fail
  have hL : Below w.heap.size w (((w.alloc (.cells #[.slice A n c] 22)).alloc (.cells #[.slice A' m c'] 23)).alloc (.cells #[.slice none 0 0, .slice none 0 0] 28)) := (((Below.refl _ _).alloc (Nat.le_refl _) _).alloc (by simp) _).alloc (by simp; omega) _
  have p1 : Blk (((w.alloc (.cells #[.slice A n c] 22)).alloc (.cells #[.slice A' m c'] 23)).alloc (.cells #[.slice none 0 0, .slice none 0 0] 28)) w.heap.size 22 #[.slice A n c] := ((Blk.new w _ _).alloc _).alloc _
  have p2 : Blk (((w.alloc (.cells #[.slice A n c] 22)).alloc (.cells #[.slice A' m c'] 23)).alloc (.cells #[.slice none 0 0, .slice none 0 0] 28)) (w.heap.size + 1) 23 #[.slice A' m c'] := by
    have := (Blk.new (w.alloc (.cells #[.slice A n c] 22)) 23 #[.slice A' m c']).alloc (.cells #[.slice none 0 0, .slice none 0 0] 28)
    simpa using this
  have p3 : Blk (((w.alloc (.cells #[.slice A n c] 22)).alloc (.cells #[.slice A' m c'] 23)).alloc (.cells #[.slice none 0 0, .slice none 0 0] 28)) (w.heap.size + 2) 28 #[.slice none 0 0, .slice none 0 0] := by
    have := (Blk.new ((w.alloc (.cells #[.slice A n c] 22)).alloc (.cells #[.slice A' m c'] 23)) 28 #[.slice none 0 0, .slice none 0 0])
    simpa using this
  obtain ⟨W, hW⟩ : ∃ W, W = (((w.alloc (.cells #[.slice A n c] 22)).alloc (.cells #[.slice A' m c'] 23)).alloc (.cells #[.slice none 0 0, .slice none 0 0] 28)) := ⟨_, rfl⟩
  have hW3 : W.heap.size = w.heap.size + 3 := by rw [hW]; simp
  rw [← hW] at hL p1 p2 p3 ⊢
  clear hW
  refine (check_all A n c l A' m c' ws W ((Hr.out.below hL).more hL.size) ((Hr'.out.below hL).more hL.size) hn hc').mono ?_
  rintro e w1 ⟨⟨r, rfl, hr⟩, hb1⟩
  have hL1 := hL.trans (hb1.mono hL.size)
  have P1 := Lib.hid (p1.stay hb1)
  have P2 := Lib.hid (p2.stay hb1)
  have P3 := Lib.hid (p3.stay hb1)
  have HL := Lib.hid hL1
  have HR := Lib.hid hr
  clear hL p1 p2 p3 hb1 hL1 hr
  have g0 := P1.out.cell 0
  have g1 := P2.out.cell 0
  have g3 := P3.out.cell 0
  have g4 := P3.out.cell 1
  have f3 := P3.out.frozen 0
  have f4 := P3.out.frozen 1
  have hr0 : ¬ r = 0 := fun h => by subst h; exact Hno.out (chk_zero HR.out).2
  · have hrb : (r != 0) = true := by simpa using hr0
    go_wp2
    (try simp only [Exit.inBlock, Exit.then])
    refine bodyPost_ret (ret_tab rfl rfl (x := .slice none 0 0) (y := .slice none 0 0) ?_) rfl ?_
    · have h1 := (P3.out.set_ 0 (.slice none 0 0)).set_ 1 (.slice none 0 0)
      simpa using h1
    · exact ⟨.inl ⟨r, hr0, HR.out, rfl⟩, ((HL.out.setCell (by simp; omega) _).setCell (by simp; omega) _)⟩
set_option maxRecDepth 100000 in
set_option maxHeartbeats 4000000 in
theorem rbuild_all (A : Option Addr) (n c : Nat) (l : List (Int × Int × Int)) (A' : Option Addr) (m c' : Nat) (ws : List Int) (w : World) (hr : Reads w w.heap.size 3 A n (l.flatMap spv)) (hnc : n ≤ c) (hr' : Reads w w.heap.size 1 A' m (ws.map iv)) (hn : n ≤ 1000000) (hc' : m ≤ c') (hl : W64s l) :
    Calls Try.prog 13 #[.slice A n c, .slice A' m c'] w fun e w' => BuildE l ws m e w' ∧ Below w.heap.size w w' := by
  by_cases hm3 : m ≤ 1000000
  · exact rbuild_any A n c l A' m c' ws w hr hnc hr' hn hc' hm3 hl
  have hno : ¬ okW ws := fun h => by have h1 := h.2.1; have h2 := hr'.1; rw [List.length_map] at h2; omega
  have Hno := Lib.hid hno
  clear hm3 hno
  have Hr := Lib.hid hr
  have Hr' := Lib.hid hr'
  have Hl := Lib.hid hl
  clear hr hr' hl
  go_enter Try.func13, Try.ntmps13
  go_wp2_with fail
  have hL : Below w.heap.size w (w.alloc (.cells #[.slice none 0 0, .slice none 0 0] 28)) := (Below.refl _ _).alloc (Nat.le_refl _) _
  have p3 := Blk.new w 28 #[.slice none 0 0, .slice none 0 0]
  obtain ⟨W, hW⟩ : ∃ W, W = w.alloc (.cells #[.slice none 0 0, .slice none 0 0] 28) := ⟨_, rfl⟩
  have hW1 : W.heap.size = w.heap.size + 1 := by rw [hW]; simp
  rw [← hW] at hL p3 ⊢
  clear hW
  refine (rcheck_all A n c l A' m c' ws W ((Hr.out.below hL).more hL.size) ((Hr'.out.below hL).more hL.size) hn).mono ?_
  rintro e w1 ⟨⟨r, rfl, hr⟩, hb1⟩
  have hL1 := hL.trans (hb1.mono hL.size)
  have hsz1 : w.heap.size + 1 ≤ w1.heap.size := by have := hb1.size; rw [hW1] at this; exact this
  have P3 := Lib.hid (p3.stay hb1)
  have HL := Lib.hid hL1
  have HR := Lib.hid hr
  have Hsz1 := Lib.hid hsz1
  clear hL p3 hb1 hL1 hr hsz1
  have g3 := P3.out.cell 0
  have g4 := P3.out.cell 1
  have f3 := P3.out.frozen 0
  have f4 := P3.out.frozen 1
  have hr0 : ¬ r = 0 := fun h => by subst h; exact Hno.out (chk_zero HR.out).2
  · have hrb : (r != 0) = true := by simpa using hr0
    go_wp2
    (try simp only [Exit.inBlock, Exit.then])
    refine bodyPost_ret (rret_tab rfl rfl (x := .slice none 0 0) (y := .slice none 0 0) ?_) rfl ?_
    · have h1 := (P3.out.set_ 0 (.slice none 0 0)).set_ 1 (.slice none 0 0)
      simpa using h1
    · exact ⟨.inl ⟨r, hr0, HR.out, rfl⟩, ((HL.out.setCell (by simp) _).setCell (by simp) _)⟩
end Go.Proofs.Ytnlmikefihaldaa
