/- convert.Check, open: the coder of an encoding. -/
import Derived.Test.YtbcbmmgfdobdiaaDoorK3
namespace Go.Proofs.YtbcbmmgfdobdiaaDoor
open Go.RowKit
open Go.Maps (Keyed)

def CkE (kind : Int) (codes : List Int) (e : Int) : Prop := ((kind = 1 ∨ kind = 2 ∨ kind = 3) ∧ e = 0) ∨ (kind = 4 ∧ CkC codes e) ∨ ((kind < 1 ∨ 4 < kind) ∧ e = 8)
theorem CkE_some (kind : Int) (codes : List Int) : ∃ e, CkE kind codes e := by
  by_cases h4 : kind = 4
  · obtain ⟨e, he⟩ := CkC_some codes
    exact ⟨e, Or.inr (Or.inl ⟨h4, he⟩)⟩
  · by_cases h : kind < 1 ∨ 4 < kind
    · exact ⟨8, Or.inr (Or.inr ⟨h, rfl⟩)⟩
    · exact ⟨0, Or.inl ⟨by omega, rfl⟩⟩
theorem CkE_one {kind : Int} {codes : List Int} {e e' : Int} (h : CkE kind codes e) (h' : CkE kind codes e') : e = e' := by
  rcases h with ⟨a, rfl⟩ | ⟨a, ha⟩ | ⟨a, rfl⟩ <;> rcases h' with ⟨b, rfl⟩ | ⟨b, hb⟩ | ⟨b, rfl⟩ <;> first | rfl | exact CkC_one ha hb | omega
def cdOf (kind : Int) (codes : List Int) : Cd := if kind = 2 then .u16 true else if kind = 3 then .u16 false else if kind = 4 then .one codes else .u8
theorem good_cd {kind : Int} {codes : List Int} (h : CkE kind codes 0) : GoodK (cdOf kind codes) := by
  rcases h with ⟨a, _⟩ | ⟨a, ha⟩ | ⟨a, h⟩
  · rcases a with rfl | rfl | rfl <;> simp [cdOf, GoodK]
  · subst a; simp [cdOf, GoodK]; exact CkC_zero.1 ha
  · cases h

set_option maxRecDepth 100000 in
set_option maxHeartbeats 2000000 in
theorem checkE_any (kind : Int) (A : Option Addr) (n c : Nat) (codes : List Int) (e : Int) (w : World) (h : Reads w w.heap.size 1 A n (codes.map iv)) (hC : CkE kind codes e) :
    Calls Tryd.prog 32 #[.agg #[.int .i64 kind, .slice A n c]] w fun x w' => x = .returned (.int .i64 e) ∧ Below w.heap.size w w' := by
  have HB := Lib.hid (Blk.new w 26 #[.int .i64 kind, .slice A n c])
  have hL := below_new w (.cells #[.int .i64 kind, .slice A n c] 26)
  have HL := Lib.hid hL
  have HR := Lib.hid (h.stay hL)
  have g0 := HB.out.cell 0
  have g1 := HB.out.cell 1
  clear hL h
  rcases hC with ⟨a, rfl⟩ | ⟨rfl, ha⟩ | ⟨a, rfl⟩
  · rcases a with rfl | rfl | rfl
    · go_enter Tryd.func32, Tryd.ntmps32
      go_wp2
      go_ret
      exact ⟨rfl, HL.out⟩
    · go_enter Tryd.func32, Tryd.ntmps32
      go_wp2
      go_ret
      exact ⟨rfl, HL.out⟩
    · go_enter Tryd.func32, Tryd.ntmps32
      go_wp2
      go_ret
      exact ⟨rfl, HL.out⟩
  · have Ha := Lib.hid ha
    clear ha
    go_enter Tryd.func32, Tryd.ntmps32
    go_wp2_with fail
    refine (charset_any A n c codes e _ HR.out Ha.out).mono ?_
    rintro x w1 ⟨rfl, hb1⟩
    go_wp2
    go_ret
    exact ⟨rfl, HL.out.trans (hb1.mono HL.out.size)⟩
  · have k1 : (kind == 1) = false := by simp; omega
    have k2 : (kind == 2) = false := by simp; omega
    have k3 : (kind == 3) = false := by simp; omega
    have k4 : (kind == 4) = false := by simp; omega
    clear a
    go_enter Tryd.func32, Tryd.ntmps32
    go_wp2
    go_ret
    exact ⟨rfl, HL.out⟩

/-- the bytes of the codes that were seen -/
def byteK (codes : List Int) (k : Nat) (c : Int) : Option Int := if c < 0 then none else ((codes.take k).findIdx? (fun x => decide (x = c))).map fun i => (i : Int)
def byteF (codes : List Int) (c : Int) : Option Int := if c < 0 then none else (placeOf codes c).map fun i => (i : Int)
theorem byteK_zero (codes : List Int) : byteK codes 0 = fun _ => none := by funext c; simp [byteK]
theorem byteK_all {codes : List Int} {k : Nat} (h : codes.length ≤ k) : byteK codes k = byteF codes := by
  funext c; rw [byteK, byteF, placeOf, List.take_of_length_le h]
theorem byteK_skip {codes : List Int} {k : Nat} {x : Int} (h : codes[k]? = some x) (hx : x < 0) : byteK codes (k + 1) = byteK codes k := by
  funext c
  obtain ⟨hk, he⟩ := List.getElem?_eq_some_iff.1 h
  unfold byteK
  by_cases hc : c < 0
  · rw [if_pos hc, if_pos hc]
  · rw [if_neg hc, if_neg hc, List.take_succ_eq_append_getElem hk, he, List.findIdx?_append]
    have : ([x] : List Int).findIdx? (fun y => decide (y = c)) = none := by simp; omega
    rw [this]; simp
theorem byteK_put {codes : List Int} {k : Nat} {x : Int} (h : codes[k]? = some x) (hx : 0 ≤ x) (hn : x ∉ codes.take k) : upd (byteK codes k) x (k : Int) = byteK codes (k + 1) := by
  funext c
  obtain ⟨hk, he⟩ := List.getElem?_eq_some_iff.1 h
  unfold upd byteK
  rw [List.take_succ_eq_append_getElem hk, he, List.findIdx?_append]
  by_cases hc : c = x
  · subst hc
    rw [if_pos rfl, if_neg (by omega)]
    have h1 : (codes.take k).findIdx? (fun y => decide (y = c)) = none := by
      rw [List.findIdx?_eq_none_iff]; intro y hy; simp; intro e; exact hn (e ▸ hy)
    rw [h1]
    simp; omega
  · rw [if_neg hc]
    by_cases hc0 : c < 0
    · rw [if_pos hc0, if_pos hc0]
    · rw [if_neg hc0, if_neg hc0]
      have : ([x] : List Int).findIdx? (fun y => decide (y = c)) = none := by simp; omega
      rw [this]; simp
/-- a coder's value -/
def CdV (w : World) : Cd → Value → Prop
  | .u8, v => v = .iface 103 (.agg #[])
  | .u16 big, v => v = .iface 105 (.agg #[.bool big])
  | .one codes, v => ∃ A cap m n, v = .iface 108 (.agg #[.slice A 256 cap, .map (some m)]) ∧ Reads w w.heap.size 1 A 256 (codes.map iv) ∧ MapIs Tryd.prog 3 5 (Lit.int .i64) (Lit.int .u8) w m n (byteF codes)
theorem CdV.stay {w w' : World} {K : Cd} {v : Value} (h : CdV w K v) (hb : Below w.heap.size w w') : CdV w' K v := by
  cases K with
  | u8 => exact h
  | u16 big => exact h
  | one codes => obtain ⟨A, cap, m, n, e, h1, h2⟩ := h; exact ⟨A, cap, m, n, e, h1.stay hb, h2.stay hb⟩
theorem plain_u8 (x : Int) (h0 : 0 ≤ x) (h1 : x < 256) : plainElem (H := Unit) Tryd.prog 5 (.int .u8 x) = some (.lit (.int .u8 x), []) :=
  plainElem_int Tryd.underlying5 (by simp [Lit.wf, IntKind.min, IntKind.max, IntKind.signed, IntKind.bits]; omega)

set_option maxRecDepth 100000 in
set_option maxHeartbeats 4000000 in
theorem open_good (kind : Int) (A : Option Addr) (n c : Nat) (codes : List Int) (w : World) (h : Reads w w.heap.size 1 A n (codes.map iv)) (hC : CkE kind codes 0) :
    Calls Tryd.prog 44 #[.agg #[.int .i64 kind, .slice A n c]] w fun x w' => (∃ v, x = .returned (.tuple #[v, .bool true]) ∧ CdV w' (cdOf kind codes) v) ∧ Below w.heap.size w w' := by
  have HB := Lib.hid (Blk.new w 26 #[.int .i64 kind, .slice A n c])
  have hL := below_new w (.cells #[.int .i64 kind, .slice A n c] 26)
  have HL := Lib.hid hL
  have HR := Lib.hid (h.stay hL)
  have HC := Lib.hid hC
  have g0 := HB.out.cell 0
  have g1 := HB.out.cell 1
  have hl : codes.length = n := by have := h.1; simpa using this
  have Hl := Lib.hid hl
  have hmm := @run_makeMap Tryd.prog
  clear hL h hl
  go_enter Tryd.func44, Tryd.ntmps44
  go_wp2_with fail
  obtain ⟨W, hW⟩ : ∃ W, W = w.alloc (.cells #[.int .i64 kind, .slice A n c] 26) := ⟨_, rfl⟩
  rw [← hW] at HB HL HR g0 g1 ⊢
  clear hW g0 g1
  refine (checkE_any kind A n c codes 0 W HR.out HC.out).mono ?_
  rintro x w1 ⟨rfl, hb1⟩
  have HB1 := Lib.hid (HB.out.stay hb1)
  have HL1 := Lib.hid (HL.out.trans (hb1.mono HL.out.size))
  have HR1 := Lib.hid (HR.out.stay hb1)
  have g0 := HB1.out.cell 0
  have g1 := HB1.out.cell 1
  clear HB HL HR hb1
  rcases hC with ⟨a, _⟩ | ⟨rfl, ha⟩ | ⟨a, he⟩
  · rcases a with rfl | rfl | rfl
    · go_wp2
      exact bodyPost_ret (v := .tuple #[.iface 103 (.agg #[]), .bool true]) (by simp [results, Tryd.results44, go_sem]) rfl ⟨⟨_, rfl, rfl⟩, HL1.out⟩
    · go_wp2
      exact bodyPost_ret (v := .tuple #[.iface 105 (.agg #[.bool true]), .bool true]) (by simp [results, Tryd.results44, go_sem]) rfl ⟨⟨_, rfl, rfl⟩, HL1.out⟩
    · go_wp2
      exact bodyPost_ret (v := .tuple #[.iface 105 (.agg #[.bool false]), .bool true]) (by simp [results, Tryd.results44, go_sem]) rfl ⟨⟨_, rfl, rfl⟩, HL1.out⟩
  · have hg := CkC_zero.1 ha
    have hn : n = 256 := by have := hg.1; have := Hl.out; omega
    subst hn
    have Hg := Lib.hid hg
    clear ha hg
    have g1m := (HB1.out.alloc (.map #[] 0)).cell 1
    go_wp2
    clear g1m
    go_loopw [29] (fun i wr => ∃ k m : Nat, k ≤ 256 ∧ m ≤ k ∧ i = .int .i64 (k : Int) ∧ Hid (MapIs Tryd.prog 3 5 (Lit.int .i64) (Lit.int .u8) wr w1.heap.size m (byteK codes k)) ∧ Below w1.heap.size w1 wr) (fun i _ => 256 - (intOf i).toNat)
    case atStart => exact ⟨0, 0, by omega, by omega, rfl, Lib.hid (by have := MapIs.made Tryd.prog 3 5 (Lit.int .i64) (Lit.int .u8) w1; rw [← byteK_zero codes] at this; exact this), below_new _ _⟩
    case round =>
      obtain ⟨k, m, hk, hmk, rfl, HM, hb⟩ := hrel
      have g0 := (HB1.out.stay hb).cell 0
      have g1 := (HB1.out.stay hb).cell 1
      by_cases hlt : k < 256
      · obtain ⟨ad, u, rfl, _, hu, hcell⟩ := (HR1.out.below hb).at_ hlt
        obtain ⟨x, hx, rfl⟩ := iv_at hu
        clear hu
        by_cases q : 0 ≤ x
        · have hxr : x ≤ 1114111 := by
            rcases Hg.out.2.1 x (List.mem_of_getElem? hx) with h1 | h1
            · omega
            · simp only [scalB, decide_eq_true_eq] at h1; omega
          have hkey := keyOf_i64 Tryd.underlying3 x (by omega) (by omega)
          have Hsu := Lib.hid (byteK_put hx q (fun hm => not_dup Hg.out ⟨k, x, hx, by omega, hm⟩))
          have hmn : m < maxLen := by unfold maxLen; omega
          have hpl := plain_u8 (k : Int) (by omega) (by omega)
          clear hx
          go_wp2_with (first | (at_mapUpdate; refine wpList_put rfl _ _ _ 106 rfl inj_i64 keyInt Tryd.underlying106 rfl HM.out hmn _ _ x (k : Int) rfl (by first | rfl | go_num) hkey hpl ?_; intro w3 hm3 hg3 hs3) | go_in)
          rw [Hsu.out] at hm3
          go_roundw
          case rel => exact ⟨k + 1, _, by omega, by split <;> omega, by go_num, Lib.hid hm3, hb.trans ((Below.refl _ _).grown hg3 hb.size (by intro g eg; injection eg; omega))⟩
          case measure => simp [intOf]; omega
        · have Hsu := Lib.hid (byteK_skip hx (by omega))
          clear hx
          go_wp2
          go_roundw
          case rel => exact ⟨k + 1, m, by omega, by omega, by go_num, Lib.hid (by rw [Hsu.out]; exact HM.out), hb⟩
          case measure => simp [intOf]; omega
      · have HM2 := Lib.hid (show MapIs Tryd.prog 3 5 (Lit.int .i64) (Lit.int .u8) wr w1.heap.size m (byteF codes) by have := HM.out; rw [byteK_all (by have := Hg.out.1; omega)] at this; exact this)
        have hk256 : ¬ (k : Int) < 256 := by omega
        go_wp2
        exact bodyPost_ret (v := .tuple #[.iface 108 (.agg #[.slice A 256 c, .map (some w1.heap.size)]), .bool true]) (by simp [results, Tryd.results44, go_sem]) rfl ⟨⟨_, rfl, A, c, w1.heap.size, m, rfl, HR1.out.stay hb, HM2.out⟩, HL1.out.trans (hb.mono HL1.out.size)⟩
  · cases he

set_option maxRecDepth 100000 in
set_option maxHeartbeats 2000000 in
theorem open_bad (kind : Int) (A : Option Addr) (n c : Nat) (codes : List Int) (e : Int) (w : World) (h : Reads w w.heap.size 1 A n (codes.map iv)) (hC : CkE kind codes e) (he : e ≠ 0) :
    Calls Tryd.prog 44 #[.agg #[.int .i64 kind, .slice A n c]] w fun x w' => x = .returned (.tuple #[.iface 103 (.agg #[]), .bool false]) ∧ Below w.heap.size w w' := by
  have HB := Lib.hid (Blk.new w 26 #[.int .i64 kind, .slice A n c])
  have hL := below_new w (.cells #[.int .i64 kind, .slice A n c] 26)
  have HL := Lib.hid hL
  have HR := Lib.hid (h.stay hL)
  have HC := Lib.hid hC
  have g0 := HB.out.cell 0
  have g1 := HB.out.cell 1
  have hne : (e != 0) = true := bne_iff_ne.2 he
  clear hL h hC he
  go_enter Tryd.func44, Tryd.ntmps44
  go_wp2_with fail
  clear g0 g1
  refine (checkE_any kind A n c codes e _ HR.out HC.out).mono ?_
  rintro x w1 ⟨rfl, hb1⟩
  go_wp2
  exact bodyPost_ret (v := .tuple #[.iface 103 (.agg #[]), .bool false]) (by simp [results, Tryd.results44, go_sem]) rfl ⟨rfl, HL.out.trans (hb1.mono HL.out.size)⟩
end Go.Proofs.YtbcbmmgfdobdiaaDoor
