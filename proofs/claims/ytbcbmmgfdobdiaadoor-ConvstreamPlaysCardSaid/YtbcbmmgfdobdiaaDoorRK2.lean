/- The references' Check (layers 6 and 7). -/
import Derived.Test.YtbcbmmgfdobdiaaDoorRK1
namespace Go.Proofs.YtbcbmmgfdobdiaaDoor
open Go.RowKit

theorem byteI_seen {codes : List Int} {k : Nat} {x : Int} (hx : 0 ≤ x) (hm : x ∈ codes.take k) : byteI codes x < (k : Int) := by
  obtain ⟨i, hi, hic⟩ := take_idx hm
  have : ∃ j, placeOf codes x = some j ∧ j ≤ i := by
    unfold placeOf
    cases hf : codes.findIdx? (fun y => decide (y = x)) with
    | none =>
      rw [List.findIdx?_eq_none_iff] at hf
      have := hf x (List.mem_of_getElem? hic)
      simp at this
    | some j =>
      refine ⟨j, rfl, ?_⟩
      rw [List.findIdx?_eq_some_iff_getElem] at hf
      obtain ⟨h1, _, h3⟩ := hf
      rcases Nat.lt_or_ge i j with hlt | hge
      · have := h3 i hlt
        obtain ⟨q1, q2⟩ := List.getElem?_eq_some_iff.1 hic
        rw [q2] at this; simp at this
      · exact hge
  obtain ⟨j, hj, hji⟩ := this
  rw [byteI, if_neg (by omega), hj]
  simp; omega

set_option maxRecDepth 100000 in
set_option maxHeartbeats 4000000 in
theorem rcharset_any (A : Option Addr) (n c : Nat) (codes : List Int) (e : Int) (w : World) (h : Reads w w.heap.size 1 A n (codes.map iv)) (hC : CkC codes e) :
    Calls Tryd.prog 48 #[.agg #[.slice A n c]] w fun x w' => x = .returned (.int .i64 e) ∧ Below w.heap.size w w' := by
  have hl : codes.length = n := by have := h.1; simpa using this
  have HB := Lib.hid (Blk.new w 24 #[.slice A n c])
  have hL := below_new w (.cells #[.slice A n c] 24)
  have HL := Lib.hid hL
  have HR := Lib.hid (h.stay hL)
  have g0 := HB.out.cell 0
  by_cases hn : n = 256
  · subst hn
    have HC := Lib.hid hC
    have Hl := Lib.hid hl
    clear hC hl h hL
    go_enter Tryd.func48, Tryd.ntmps48
    go_wp2
    obtain ⟨W, hW⟩ : ∃ W, W = w.alloc (.cells #[.slice A 256 c] 24) := ⟨_, rfl⟩
    rw [← hW] at HB HL HR g0 ⊢
    clear hW
    go_loop [3] (fun i => ∃ k : Nat, k ≤ 256 ∧ i = .int .i64 (k : Int) ∧ Hid (∀ y ∈ codes.take k, y = -1 ∨ scalB y = true)) (fun i => 256 - (intOf i).toNat)
    case atStart => exact ⟨0, by omega, rfl, Lib.hid (fun y hy => by simp at hy)⟩
    case round =>
      obtain ⟨k, hk, rfl, Hk⟩ := hrel
      by_cases hlt : k < 256
      · obtain ⟨ad, u, rfl, _, hu, hcell⟩ := HR.out.at_ hlt
        obtain ⟨x, hx, rfl⟩ := iv_at hu
        clear hu
        have hnx : ∀ (hx2 : x = -1 ∨ scalB x = true), ∀ y ∈ codes.take (k + 1), y = -1 ∨ scalB y = true := fun hx2 y hy => by
          obtain ⟨hkl, he⟩ := List.getElem?_eq_some_iff.1 hx
          rw [List.take_succ_eq_append_getElem hkl, he] at hy
          rcases List.mem_append.1 hy with hy | hy
          · exact Hk.out y hy
          · simp at hy; subst hy; exact hx2
        by_cases q1 : x = -1
        · have H := Lib.hid (hnx (Or.inl q1))
          subst q1
          clear hx hnx
          go_wp2
          go_round
          case rel => exact ⟨k + 1, by omega, by go_num, H⟩
          case measure => simp [intOf]; omega
        · have q1d : (x != -1) = true := bne_iff_ne.2 q1
          cases hsc : scalB x with
          | true =>
            have H := Lib.hid (hnx (Or.inr hsc))
            have Hsc := Lib.hid hsc
            clear hx hnx q1 hsc
            go_wp2_with fail
            refine (rscalar_any x _).mono ?_
            rintro e w1 ⟨rfl, rfl⟩
            rw [Hsc.out]
            go_wp2
            go_round
            case rel => exact ⟨k + 1, by omega, by go_num, H⟩
            case measure => simp [intOf]; omega
          | false =>
            have He := Lib.hid (CkC_one HC.out (Or.inr (Or.inl ⟨Hl.out, not_okC hx q1 hsc, rfl⟩)))
            have Hsc := Lib.hid hsc
            clear hx hnx q1 hsc
            go_wp2_with fail
            refine (rscalar_any x _).mono ?_
            rintro e w1 ⟨rfl, rfl⟩
            rw [Hsc.out]
            go_wp2
            go_ret
            exact ⟨by rw [He.out]; rfl, HL.out⟩
      · have Hok : Hid (okC codes) := by
          have := Hk.out
          rw [List.take_of_length_le (by have := Hl.out; omega)] at this
          exact this
        have hk256 : ¬ (k : Int) < 256 := by omega
        clear hlt hk Hk
        go_wp2
        clear hk256 g0
        go_loopw [4] (fun i wr => ∃ k : Nat, k ≤ 256 ∧ i = .int .i64 (k : Int) ∧ Hid (∀ (j : Nat) (y : Int), j < k → codes[j]? = some y → y ≠ -1 → y ∉ codes.take j) ∧ Below W.heap.size W wr) (fun i _ => 256 - (intOf i).toNat)
        case atStart => exact ⟨0, by omega, rfl, Lib.hid (fun j y hj => absurd hj (by omega)), Below.refl _ _⟩
        case round =>
          obtain ⟨k, hk, rfl, Hd, hb⟩ := hrel
          by_cases hlt : k < 256
          · have HRk := Lib.hid (HR.out.stay hb)
            obtain ⟨ad, u, rfl, hadl, hu, hcell⟩ := HRk.out.at_ hlt
            obtain ⟨x, hx, rfl⟩ := iv_at hu
            clear hu
            have g1 := (HB.out.stay hb).cell 0
            have hwl := (HB.out.stay hb).lt
            have hxr : -1 ≤ x ∧ x ≤ 1114111 := by
              rcases Hok.out x (List.mem_of_getElem? hx) with h1 | h1
              · omega
              · simp only [scalB, decide_eq_true_eq] at h1; omega
            obtain ⟨hx1, hx2⟩ := hxr
            have hnx : ∀ (hx2 : x ≠ -1 → x ∉ codes.take k), ∀ (j : Nat) (y : Int), j < k + 1 → codes[j]? = some y → y ≠ -1 → y ∉ codes.take j := fun hx2 j y hj hy => by
              rcases Nat.lt_or_eq_of_le (Nat.le_of_lt_succ hj) with h1 | h1
              · exact Hd.out j y h1 hy
              · subst h1; rw [hx] at hy; injection hy with hy; subst hy; exact hx2
            by_cases q1 : x = -1
            · have H := Lib.hid (hnx (fun hh => absurd q1 hh))
              subst q1
              clear hx hnx
              go_wp2_with fail
              go_quiet (fail)
              go_wp2
              go_roundw
              case rel => exact ⟨k + 1, by omega, by go_num, H, below_drewN hb _⟩
              case measure => simp [intOf]; omega
            · have hx0 : (0 : Int) ≤ x := by omega
              have Hx := Lib.hid hx
              have Hnx := Lib.hid hnx
              have Hq1 := Lib.hid q1
              have CR := Lib.hid (show ∀ u, Below wr.heap.size wr u → Calls Tryd.prog 68 #[.agg #[.slice (some ad) 256 c], .int .i64 x] u fun e v => e = .returned (.int .i64 (byteI codes x)) ∧ Below wr.heap.size wr v from fun u hu =>
                (rbyte_any (some ad) 256 c codes x u (HRk.out.stay hu) (by omega)).mono fun e v ⟨h1, h2⟩ => ⟨h1, hu.trans (h2.mono hu.size)⟩)
              have K := Lib.hid (show ∀ u, Below wr.heap.size wr u → u.cell? ⟨w.heap.size, 0, none⟩ = some (.slice (some ad) 256 c) ∧ u.cell? (ad.add k) = some (.int .i64 x) from fun u hu =>
                ⟨(hu.cell hwl).trans g1, (hu.cell (by rw [block_of_add]; exact hadl)).trans hcell⟩)
              have hbS : Below wr.heap.size wr wr.drew := (Below.refl _ _).drew
              clear hx hnx q1
              go_wp2_with fail
              go_region_held3 (fun u => Below wr.heap.size wr u ∧ u.cell? ⟨w.heap.size, 0, none⟩ = some (.slice (some ad) 256 c) ∧ u.cell? (ad.add k) = some (.int .i64 x)) (first | exact ⟨hbS, K.out _ hbS⟩ | exact ⟨(Below.refl _ _).drew, K.out _ (Below.refl _ _).drew⟩) (first | (go_at_call 68; (with_reducible refine (CR.out _ hbS).mono ?_); rintro e w2 ⟨rfl, hb2⟩; clear hbS; have hbS := hb2; clear hb2))
              by_cases hseen : x ∈ codes.take k
              · have hlt2 := byteI_seen hx0 hseen
                have He := Lib.hid (CkC_one HC.out (Or.inr (Or.inr (Or.inl ⟨Hl.out, Hok.out, ⟨k, x, Hx.out, Hq1.out, hseen⟩, rfl⟩))))
                clear hseen
                go_wp2
                go_ret
                exact ⟨by rw [He.out]; rfl, HL.out.trans ((hb.trans (hbS.mono hb.size)).mono HL.out.size)⟩
              · have hlt2 : ¬ byteI codes x < (k : Int) := by rw [byteI_hit hx0 Hx.out hseen]; omega
                have H := Lib.hid (Hnx.out (fun _ => hseen))
                clear hseen
                go_wp2
                go_roundw
                case rel => exact ⟨k + 1, by omega, by go_num, H, hb.trans (hbS.mono hb.size)⟩
                case measure => simp [intOf]; omega
          · have He := Lib.hid (CkC_one HC.out (Or.inr (Or.inr (Or.inr ⟨Hl.out, Hok.out, not_dupC (k := k) Hd.out (by have := Hl.out; omega), rfl⟩))))
            go_wp2
            go_ret
            exact ⟨by rw [He.out]; rfl, HL.out.trans (hb.mono HL.out.size)⟩
  · have He := Lib.hid (CkC_one hC (Or.inl ⟨by omega, rfl⟩))
    have hne : ((n : Int) != 256) = true := bne_iff_ne.2 (by omega)
    clear hC hl h hL hn
    go_enter Tryd.func48, Tryd.ntmps48
    go_wp2
    go_ret
    exact ⟨by rw [He.out]; rfl, HL.out⟩

set_option maxRecDepth 100000 in
set_option maxHeartbeats 2000000 in
theorem rcheck_any (kind : Int) (A : Option Addr) (n c : Nat) (codes : List Int) (e : Int) (w : World) (h : Reads w w.heap.size 1 A n (codes.map iv)) (hC : CkE kind codes e) :
    Calls Tryd.prog 25 #[.agg #[.int .i64 kind, .slice A n c]] w fun x w' => x = .returned (.int .i64 e) ∧ Below w.heap.size w w' := by
  have HB := Lib.hid (Blk.new w 26 #[.int .i64 kind, .slice A n c])
  have hL := below_new w (.cells #[.int .i64 kind, .slice A n c] 26)
  have HL := Lib.hid hL
  have HR := Lib.hid (h.stay hL)
  have g0 := HB.out.cell 0
  have g1 := HB.out.cell 1
  clear hL h
  rcases hC with ⟨hk, rfl⟩ | ⟨rfl, hC⟩ | ⟨hk, rfl⟩
  · have h1 : ¬ kind < 1 := by omega
    have h4 : ¬ (4 : Int) < kind := by omega
    have h4' : (kind == 4) = false := by simp; omega
    clear hk
    go_enter Tryd.func25, Tryd.ntmps25
    go_wp2
    go_ret
    exact ⟨rfl, HL.out⟩
  · have HC := Lib.hid hC
    clear hC
    go_enter Tryd.func25, Tryd.ntmps25
    go_wp2_with fail
    refine (rcharset_any A n c codes e _ HR.out HC.out).mono ?_
    rintro x w1 ⟨rfl, hb1⟩
    go_wp2
    go_ret
    exact ⟨rfl, HL.out.trans (hb1.mono HL.out.size)⟩
  · rcases hk with hk | hk
    · go_enter Tryd.func25, Tryd.ntmps25
      go_wp2
      go_ret
      exact ⟨rfl, HL.out⟩
    · have h1 : ¬ kind < 1 := by omega
      go_enter Tryd.func25, Tryd.ntmps25
      go_wp2
      go_ret
      exact ⟨rfl, HL.out⟩
end Go.Proofs.YtbcbmmgfdobdiaaDoor
