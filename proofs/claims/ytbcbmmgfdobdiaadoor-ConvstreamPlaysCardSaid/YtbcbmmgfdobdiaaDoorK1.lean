/- convert: the coders' steps. -/
import Derived.Test.YtbcbmmgfdobdiaaDoorP7
import Derived.Test.YtbcbmmgfdobdiaaDoorU16U
import Derived.Test.YtbcbmmgfdobdiaaDoorU8S
import Derived.Test.YtbcbmmgfdobdiaaDoorU8D
import Derived.Test.YtbcbmmgfdobdiaaDoorStay
namespace Go.Proofs.YtbcbmmgfdobdiaaDoor
open Go.RowKit

theorem unit2_byte {s : List UInt8} {a b : Nat} {x y : UInt8} (ha : s[0]? = some x) (hb : s[1]? = some y) (hx : x.toNat = a) (hy : y.toNat = b) (h0 : 0 < s.length) (h1 : 1 < s.length) :
    (⟨s.toArray⟩ : ByteArray)[0].toNat = a ∧ (⟨s.toArray⟩ : ByteArray)[1].toNat = b := by
  rw [List.getElem?_eq_getElem h0] at ha
  rw [List.getElem?_eq_getElem h1] at hb
  cases ha; cases hb
  exact ⟨hx, hy⟩

set_option maxRecDepth 100000 in
set_option maxHeartbeats 2000000 in
theorem unit16_any (big : Bool) (s : List UInt8) (a b : UInt8) (w : World) (hs : s.length ≤ 1000000) (ha : s[0]? = some a) (hb : s[1]? = some b) :
    Calls Tryd.prog 132 #[.agg #[.bool big], .string ⟨s.toArray⟩] w fun e w' => e = .returned (.int .i64 (unit2 big a b : Int)) ∧ Below w.heap.size w w' := by
  obtain ⟨h1, _⟩ := List.getElem?_eq_some_iff.1 hb
  have h0 : 0 < s.length := by omega
  obtain ⟨x, hx⟩ : ∃ x, a.toNat = x := ⟨_, rfl⟩
  obtain ⟨y, hy⟩ : ∃ y, b.toNat = y := ⟨_, rfl⟩
  obtain ⟨e0, e1⟩ := unit2_byte ha hb hx hy h0 h1
  have hxl : x < 256 := by rw [← hx]; exact a.toNat_lt
  have hyl : y < 256 := by rw [← hy]; exact b.toNat_lt
  have Hu := Lib.hid (show unit2 big a b = if big = true then 256 * x + y else 256 * y + x by rw [unit2, hx, hy])
  have hor := or256 x y hxl hyl
  have hor2 := or256 y x hyl hxl
  have h0' : (0 : Int) < (s.length : Int) := by omega
  have h0d : decide (0 < s.length) = true := by simp; omega
  have h1' : (1 : Int) < (s.length : Int) := by omega
  have h1d : decide (1 < s.length) = true := by simp; omega
  clear hx hy ha hb
  have hbl := Blk.new w 105 #[.bool big]
  have HB := Lib.hid (below_new w (.cells #[.bool big] 105))
  cases big with
  | true =>
    have He := Lib.hid (show ((unit2 true a b : Nat) : Int) = 256 * (x : Int) + (y : Int) by rw [Hu.out]; simp)
    clear Hu hor2
    go_enter Tryd.func132, Tryd.ntmps132
    go_wp2_with fail
    go_quiet (fail)
    go_wp2
    exact bodyPost_ret (v := .int .i64 (256 * (x : Int) + (y : Int))) (by simp [results, Tryd.results132, go_sem]) rfl ⟨by rw [He.out], below_drewN HB.out _⟩
  | false =>
    have He := Lib.hid (show ((unit2 false a b : Nat) : Int) = 256 * (y : Int) + (x : Int) by rw [Hu.out]; simp)
    clear Hu hor
    go_enter Tryd.func132, Tryd.ntmps132
    go_wp2_with fail
    go_quiet (fail)
    go_wp2
    exact bodyPost_ret (v := .int .i64 (256 * (y : Int) + (x : Int))) (by simp [results, Tryd.results132, go_sem]) rfl ⟨by rw [He.out], below_drewN HB.out _⟩

theorem dec16_two (u v : Nat) (hu : sur u = true) : decR [(u : Int), (v : Int)] 1 = if u ≤ 56319 ∧ 56320 ≤ v ∧ v ≤ 57343 then ([((65536 + (u - 55296) * 1024 + (v - 56320) : Nat) : Int)], 0, 0) else ([], 9, 0) := by
  have hu' := sur_true.1 hu
  have hb : bmp (u : Int) = false := by simp only [bmp, decide_eq_false_iff_not]; omega
  have hk : knownB 1 = true := by decide
  rw [decR, if_pos hk]
  by_cases h : u ≤ 56319 ∧ 56320 ≤ v ∧ v ≤ 57343
  · rw [if_pos h, dec_pair hb ⟨by simp only [high, decide_eq_true_eq]; omega, by simp only [low, decide_eq_true_eq]; omega⟩]
    simp only [dec16, pre, outR, jn, List.append_nil]
    congr 2
    omega
  · rw [if_neg h, dec_bad hb (by intro x hx; simp at hx; subst hx; simp only [high, low, decide_eq_true_eq]; omega), if_pos rfl]; rfl

def trip64 (r : Nat × Nat × Bool) : Value := .tuple #[.int .i64 (r.1 : Int), .int .i64 (r.2.1 : Int), .bool r.2.2]

theorem step16_low {big : Bool} {s : List UInt8} {a b : UInt8} (ha : s[0]? = some a) (hb : s[1]? = some b) (h : sur (unit2 big a b) = false) : step16 big s = (unit2 big a b, 2, true) := by
  match s, ha, hb with
  | x :: y :: t, ha, hb => simp at ha hb; subst ha hb; exact step16_pair big x y t h
theorem step16_mid {big : Bool} {s : List UInt8} {a b : UInt8} (ha : s[0]? = some a) (hb : s[1]? = some b) (h : sur (unit2 big a b) = true) (hl : s.length < 4) : step16 big s = (0, 2, false) := by
  match s, ha, hb with
  | [x, y], ha, hb => simp at ha hb; subst ha hb; exact one16_bad h
  | [x, y, z], ha, hb => simp at ha hb; subst ha hb; exact one16_bad h
  | x :: y :: z :: t :: r, _, _ => simp at hl; omega
theorem step16_four {big : Bool} {s : List UInt8} {a b c d : UInt8} (ha : s[0]? = some a) (hb : s[1]? = some b) (hc : s[2]? = some c) (hd : s[3]? = some d) : step16 big s = two16 (unit2 big a b) (unit2 big c d) := by
  match s, ha, hb, hc, hd with
  | x :: y :: z :: t :: r, ha, hb, hc, hd => simp at ha hb hc hd; subst ha hb hc hd; rfl
theorem step16_short {big : Bool} {s : List UInt8} (h : s.length < 2) : step16 big s = (0, s.length, false) := by
  match s, h with
  | [], _ => rfl
  | [_], _ => rfl
  | _ :: _ :: _, h => simp at h; omega
theorem surrB_nat (u : Nat) : surrB (u : Int) = sur u := by
  simp only [surrB, sur]; exact decide_eq_decide.2 (by omega)

set_option maxRecDepth 100000 in
set_option maxHeartbeats 2000000 in
theorem stepU8 (s : List UInt8) (w : World) (hs : s.length ≤ 1000000) :
    Calls Tryd.prog 127 #[.agg #[], .string ⟨s.toArray⟩] w fun e w' => e = .returned (trip64 (step8 s)) ∧ Below w.heap.size w w' := by
  have HB := Lib.hid (below_new w (.cells #[] 103))
  go_enter Tryd.func127, Tryd.ntmps127
  go_wp2_with fail
  refine (step8_any s _ hs).mono ?_
  rintro e w1 ⟨rfl, rfl⟩
  go_wp2
  exact bodyPost_ret (v := trip64 (step8 s)) (by simp [results, Tryd.results127, go_sem, trip64]) rfl ⟨rfl, HB.out⟩

set_option maxRecDepth 100000 in
set_option maxHeartbeats 2000000 in
theorem stepU16_short (big : Bool) (s : List UInt8) (w : World) (hs : s.length ≤ 1000000) (h : s.length < 2) :
    Calls Tryd.prog 131 #[.agg #[.bool big], .string ⟨s.toArray⟩] w fun e w' => e = .returned (trip64 (step16 big s)) ∧ Below w.heap.size w w' := by
  have He := Lib.hid (step16_short (big := big) h)
  have h' : (s.length : Int) < 2 := by omega
  have hbl := Blk.new w 105 #[.bool big]
  have HB := Lib.hid (below_new w (.cells #[.bool big] 105))
  clear h
  go_enter Tryd.func131, Tryd.ntmps131
  go_wp2
  exact bodyPost_ret (v := .tuple #[.int .i64 0, .int .i64 (s.length : Int), .bool false]) (by simp [results, Tryd.results131, go_sem]) rfl ⟨by rw [He.out]; rfl, HB.out⟩

set_option maxRecDepth 100000 in
set_option maxHeartbeats 2000000 in
theorem stepU16_low (big : Bool) (s : List UInt8) (a b : UInt8) (w : World) (hs : s.length ≤ 1000000) (ha : s[0]? = some a) (hb : s[1]? = some b) (h : sur (unit2 big a b) = false) :
    Calls Tryd.prog 131 #[.agg #[.bool big], .string ⟨s.toArray⟩] w fun e w' => e = .returned (trip64 (step16 big s)) ∧ Below w.heap.size w w' := by
  have He := Lib.hid (step16_low ha hb h)
  obtain ⟨h1, _⟩ := List.getElem?_eq_some_iff.1 hb
  have h' : ¬ (s.length : Int) < 2 := by omega
  have Ha := Lib.hid ha
  have Hb := Lib.hid hb
  have hbl := Blk.new w 105 #[.bool big]
  have HB := Lib.hid (below_new w (.cells #[.bool big] 105))
  clear ha hb
  have hsr := surrB_nat (unit2 big a b)
  rw [h] at hsr
  have Hs := Lib.hid hsr
  clear h hsr
  go_enter Tryd.func131, Tryd.ntmps131
  go_wp2_with fail
  refine (unit16_any big s a b _ hs Ha.out Hb.out).mono ?_
  rintro e w1 ⟨rfl, hb1⟩
  have HB1 := Lib.hid hb1
  clear hb1
  go_wp2_with fail
  refine (surr_any _ _).mono ?_
  rintro e w2 ⟨rfl, rfl⟩
  rw [Hs.out]
  go_wp2
  exact bodyPost_ret (v := .tuple #[.int .i64 (unit2 big a b : Int), .int .i64 2, .bool true]) (by simp [results, Tryd.results131, go_sem]) rfl ⟨by rw [He.out]; rfl, HB.out.trans (HB1.out.mono (by simp))⟩

theorem drop2_at {s : List UInt8} {c d : UInt8} (hc : s[2]? = some c) (hd : s[3]? = some d) : (s.drop 2)[0]? = some c ∧ (s.drop 2)[1]? = some d := by
  rw [List.getElem?_drop, List.getElem?_drop]; exact ⟨hc, hd⟩

set_option maxRecDepth 100000 in
set_option maxHeartbeats 2000000 in
theorem stepU16_mid (big : Bool) (s : List UInt8) (a b : UInt8) (w : World) (hs : s.length ≤ 1000000) (ha : s[0]? = some a) (hb : s[1]? = some b) (h : sur (unit2 big a b) = true) (h4 : s.length < 4) :
    Calls Tryd.prog 131 #[.agg #[.bool big], .string ⟨s.toArray⟩] w fun e w' => e = .returned (trip64 (step16 big s)) ∧ Below w.heap.size w w' := by
  have He := Lib.hid (step16_mid ha hb h h4)
  obtain ⟨h1, _⟩ := List.getElem?_eq_some_iff.1 hb
  have h' : ¬ (s.length : Int) < 2 := by omega
  have h4' : ¬ (4 : Int) ≤ (s.length : Int) := by omega
  have Ha := Lib.hid ha
  have Hb := Lib.hid hb
  have hbl := Blk.new w 105 #[.bool big]
  have HB := Lib.hid (below_new w (.cells #[.bool big] 105))
  clear ha hb
  have hsr := surrB_nat (unit2 big a b)
  rw [h] at hsr
  have Hs := Lib.hid hsr
  clear h hsr
  go_enter Tryd.func131, Tryd.ntmps131
  go_wp2_with fail
  refine (unit16_any big s a b _ hs Ha.out Hb.out).mono ?_
  rintro e w1 ⟨rfl, hb1⟩
  have HB1 := Lib.hid hb1
  clear hb1
  go_wp2_with fail
  refine (surr_any _ _).mono ?_
  rintro e w2 ⟨rfl, rfl⟩
  rw [Hs.out]
  go_wp2
  exact bodyPost_ret (v := .tuple #[.int .i64 0, .int .i64 2, .bool false]) (by simp [results, Tryd.results131, go_sem]) rfl ⟨by rw [He.out]; rfl, HB.out.trans (HB1.out.mono (by simp))⟩


theorem stepOne_at {codes : List Int} {s : List UInt8} {b : UInt8} {x : Int} (hb : s[0]? = some b) (hx : codes[b.toNat]? = some x) : stepOne codes s = if x < 0 then (0, 1, false) else (x.toNat, 1, true) := by
  match s, hb with
  | c :: t, hb =>
    simp at hb; subst hb
    have : codes.getD c.toNat (-1) = x := by rw [List.getD_eq_getElem?_getD, hx]; rfl
    simp only [stepOne, this]

set_option maxRecDepth 100000 in
set_option maxHeartbeats 2000000 in
theorem stepS_any (codes : List Int) (B cap m : Nat) (A : Option Addr) (s : List UInt8) (w : World) (hs : s.length ≤ 1000000) (h : Reads w B 1 A 256 (codes.map iv)) (hB : B ≤ w.heap.size) :
    Calls Tryd.prog 135 #[.agg #[.slice A 256 cap, .map (some m)], .string ⟨s.toArray⟩] w fun e w' => e = .returned (trip64 (stepOne codes s)) ∧ Below w.heap.size w w' := by
  have hbl := Blk.new w 108 #[.slice A 256 cap, .map (some m)]
  have HB := Lib.hid (below_new w (.cells #[.slice A 256 cap, .map (some m)] 108))
  cases s with
  | nil =>
    clear h
    go_enter Tryd.func135, Tryd.ntmps135
    go_wp2
    exact bodyPost_ret (v := .tuple #[.int .i64 0, .int .i64 0, .bool false]) (by simp [results, Tryd.results135, go_sem]) rfl ⟨rfl, HB.out⟩
  | cons b0 t0 =>
    obtain ⟨s, hsd⟩ : ∃ s, s = b0 :: t0 := ⟨_, rfl⟩
    rw [← hsd] at hs ⊢
    have h0 : 0 < s.length := by rw [hsd]; simp
    have hne : s.isEmpty = false := by rw [hsd]; rfl
    have hb0 : s[0]? = some b0 := by rw [hsd]; rfl
    obtain ⟨b, hb, hb2, hb256⟩ := byte8_at (s := s) (k := 0) h0
    have hbb : b0.toNat = b := by
      rw [List.getElem?_eq_getElem h0] at hb0; cases hb0; exact hb2
    obtain ⟨ad, u, rfl, had, hxu, hcu⟩ := h.at_ (k := b) (by omega)
    rw [List.getElem?_map] at hxu
    obtain ⟨x, hx, rfl⟩ := Option.map_eq_some_iff.1 hxu
    have He := Lib.hid (stepOne_at hb0 (by rw [hbb]; exact hx))
    have h0' : (0 : Int) < (s.length : Int) := by omega
    have h0d : decide (0 < s.length) = true := by simp; omega
    have hcu2 : (w.alloc (.cells #[.slice (some ad) 256 cap, .map (some m)] 108)).cell? (ad.add b) = some (.int .i64 x) := (World.cell?_alloc_lt w _ _ (by rw [show (ad.add b).block = ad.block by cases b <;> rfl]; omega)).trans hcu
    have hbi : (b : Int) < 256 := by omega
    clear hsd hb2 hbb hxu hx h hcu hb0
    by_cases hx0 : x < 0
    · have Hx := Lib.hid (He.out.trans (if_pos hx0))
      go_enter Tryd.func135, Tryd.ntmps135
      go_wp2_with fail
      go_quiet (fail)
      go_wp2
      exact bodyPost_ret (v := .tuple #[.int .i64 0, .int .i64 1, .bool false]) (by simp [results, Tryd.results135, go_sem]) rfl ⟨by rw [Hx.out]; rfl, below_drewN HB.out _⟩
    · have Hx := Lib.hid (He.out.trans (if_neg hx0))
      have Hn := Lib.hid (show (x.toNat : Int) = x by omega)
      go_enter Tryd.func135, Tryd.ntmps135
      go_wp2_with fail
      go_quiet (fail)
      go_wp2
      exact bodyPost_ret (v := .tuple #[.int .i64 x, .int .i64 1, .bool true]) (by simp [results, Tryd.results135, go_sem]) rfl ⟨by rw [Hx.out, trip64]; simp only; rw [Hn.out]; rfl, below_drewN HB.out _⟩
end Go.Proofs.YtbcbmmgfdobdiaaDoor
