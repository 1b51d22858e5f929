/- convert.Encode, Convert with the policies other than Fail. -/
import Derived.Test.YtbcbmmgfdobdiaaDoorKE
namespace Go.Proofs.YtbcbmmgfdobdiaaDoor
open Go.RowKit

theorem decK_scal (K : Cd) (hK : GoodK K) (p : Int) : ∀ (f i : Nat) (s : List UInt8) (o : List Int), decK K p f i s = .ok o → ∀ c ∈ o, scalB c = true := by
  intro f
  induction f with
  | zero => intro i s o h; rw [decK] at h; cases h; simp
  | succ f ih =>
    intro i s o h
    by_cases hs : s = []
    · subst hs; rw [decK_nil] at h; cases h; simp
    · obtain ⟨⟨c, n, ok⟩, hst⟩ : ∃ x, stepK K s = x := ⟨_, rfl⟩
      cases ok with
      | true =>
        rw [decK_ok hs hst] at h
        cases hr : decK K p f (i + n) (s.drop n) with
        | error e => rw [hr] at h; cases h
        | ok o' =>
          rw [hr, pre8_ok] at h; injection h with h; subst h
          intro x hx
          rcases List.mem_append.1 hx with hx | hx
          · simp at hx; subst hx; exact (stepK_ok hK hst).2
          · exact ih _ _ _ hr x hx
      | false =>
        by_cases hp : p = 1
        · subst hp; rw [decK_fail hs hst] at h; cases h
        · rw [decK_ill hs hst hp] at h
          cases hr : decK K p f (i + n) (s.drop n) with
          | error e => rw [hr] at h; cases h
          | ok o' =>
            rw [hr, pre8_ok] at h; injection h with h; subst h
            intro x hx
            rcases List.mem_append.1 hx with hx | hx
            · exact ill8_scal _ _ x hx
            · exact ih _ _ _ hr x hx
def EncKRel (w : World) (b : Nat) (L : Cd) (l : List Int) (p : Int) (i : Value) (wr : World) : Prop :=
  ∃ (k : Nat) (out : List UInt8), k ≤ l.length ∧ i = .int .i64 (k : Int) ∧ out.length ≤ 64 * k ∧ Hid (encK L p 0 l = pre8 out (encK L p k (l.drop k))) ∧ Hid (IsB b b out wr) ∧ Hid (flt8 wr (w.heap.size + 1) 0 0) ∧ Hid (Below w.heap.size w wr)
theorem encK_step {w w2 : World} {b : Nat} {L : Cd} {l : List Int} {p : Int} {k : Nat} {out add : List UInt8} (hk : k < l.length) (hol : out.length ≤ 64 * k) (hal : add.length ≤ 64)
    (he : encK L p 0 l = pre8 out (encK L p k (l.drop k))) (hs : encK L p k (l.drop k) = pre8 add (encK L p (k + 1) (l.drop (k + 1))))
    (hI : IsB b b (out ++ add) w2) (hF : flt8 w2 (w.heap.size + 1) 0 0) (hb : Below w.heap.size w w2) : EncKRel w b L l p (.int .i64 ((k : Int) + 1)) w2 :=
  ⟨k + 1, out ++ add, hk, by congr 1, by simp; omega, by show _ = _; rw [he, hs, pre8_pre8], hI, hF, hb⟩

set_option maxRecDepth 100000 in
set_option maxHeartbeats 4000000 in
theorem cencode_good (kind : Int) (A : Option Addr) (n c : Nat) (codes : List Int) (Al : Option Addr) (nl cl : Nat) (l : List Int) (p : Int) (w : World) (h : Reads w w.heap.size 1 A n (codes.map iv)) (hl : Reads w w.heap.size 1 Al nl (l.map iv)) (hC : CkE kind codes 0) (hp2 : 2 ≤ p) (hp4 : p ≤ 4) (hn : nl ≤ 1000000) (hsc : ∀ c ∈ l, scalB c = true) (hdg : Dig w) :
    Calls Tryd.prog 47 #[.agg #[.int .i64 kind, .slice A n c], .slice Al nl cl, .int .i64 p] w fun e w' => e = .returned (.tuple #[.string ⟨(encF (cdOf kind codes) p l).toArray⟩, .agg #[.int .i64 0, .int .i64 0]]) ∧ Below w.heap.size w w' := by
  have hL : Below w.heap.size w ((w.alloc (.cells #[.int .i64 kind, .slice A n c] 26)).alloc (.cells #[.int .i64 0, .int .i64 0] 37)) := ((Below.refl _ _).alloc (Nat.le_refl _) _).alloc (by simp) _
  have p1 : Blk ((w.alloc (.cells #[.int .i64 kind, .slice A n c] 26)).alloc (.cells #[.int .i64 0, .int .i64 0] 37)) w.heap.size 26 #[.int .i64 kind, .slice A n c] := (Blk.new w _ _).alloc _
  have p2 : Blk ((w.alloc (.cells #[.int .i64 kind, .slice A n c] 26)).alloc (.cells #[.int .i64 0, .int .i64 0] 37)) (w.heap.size + 1) 37 #[.int .i64 0, .int .i64 0] := by
    have := Blk.new (w.alloc (.cells #[.int .i64 kind, .slice A n c] 26)) 37 #[.int .i64 0, .int .i64 0]
    simpa using this
  have Hl := Lib.hid (show l.length = nl by have := hl.1; simpa using this)
  have HL := Lib.hid hL
  have HR := Lib.hid (h.stay hL)
  have HX := Lib.hid (hl.stay hL)
  have HC := Lib.hid hC
  have HS := Lib.hid hsc
  have g0 := p1.cell 0
  have g1 := p1.cell 1
  have HD := Lib.hid (hdg.below hL)
  have P2 := Lib.hid p2
  have hp1n : (p == 1) = false := by simp; omega
  have hp1 : p ≠ 1 := by omega
  have HEe := Lib.hid (encF_eq (L := cdOf kind codes) hp1 l)
  clear hL h hC hdg p1 p2 hl hsc
  go_enter Tryd.func47, Tryd.ntmps47
  go_wp2_with fail
  clear g0 g1
  obtain ⟨W, hW⟩ : ∃ W, W = (w.alloc (.cells #[.int .i64 kind, .slice A n c] 26)).alloc (.cells #[.int .i64 0, .int .i64 0] 37) := ⟨_, rfl⟩
  rw [← hW] at HL HR HD P2 HX ⊢
  clear hW
  refine (open_good kind A n c codes W HR.out HC.out).mono ?_
  rintro x w1 ⟨⟨v, rfl, hv⟩, hb1⟩
  have Hv := Lib.hid hv
  have HD1 := Lib.hid (HD.out.below hb1)
  have HL1 := Lib.hid (HL.out.trans (hb1.mono HL.out.size))
  have Q2 := Lib.hid (P2.out.stay hb1)
  have HX1 := Lib.hid (HX.out.stay hb1)
  clear hv hb1 HD HL P2 HX HR
  go_wp2_with fail
  refine (known7_any p w1 (by omega) hp4).mono ?_
  rintro e w2 ⟨rfl, rfl⟩
  have hlt2 := Q2.out.lt
  have bn := below_new w2 (.cells #[.pointer none, .slice none 0 0] 111)
  have HS0 := Lib.hid (show EncKRel w w2.heap.size (cdOf kind codes) l p (.int .i64 0) _ from ⟨0, [], Nat.zero_le _, rfl, by simp, by show _ = _; rw [pre8_nil]; rfl, fresh_B w2, Q2.out.stay bn, HL1.out.trans (bn.mono HL1.out.size)⟩)
  have hle2 := HL1.out.size
  clear bn
  go_wp2_with fail
  go_loopw [29] (fun i wr => EncKRel w w2.heap.size (cdOf kind codes) l p i wr ∧ Hid (Below w2.heap.size w2 wr)) (fun i _ => nl - (intOf i).toNat)
  case atStart => exact ⟨HS0.out, Lib.hid (below_new _ _)⟩
  case round =>
    obtain ⟨⟨k, out, hk, rfl, hol, Hee, HI, HF, Hb⟩, HB2⟩ := hrel
    rw [Hl.out] at hk
    have hsz : w2.heap.size < wr.heap.size := isB_size HI.out
    by_cases hlt : k < nl
    · obtain ⟨ad, u, rfl, hadB, hu, hcell⟩ := (HX1.out.below HB2.out).at_ hlt
      obtain ⟨x, hc, rfl⟩ := iv_at hu
      have Hdr := Lib.hid (drop_at hc)
      have hkl : k < l.length := by rw [Hl.out]; exact hlt
      have hxs := HS.out x (List.mem_of_getElem? hc)
      simp only [scalB, decide_eq_true_eq] at hxs
      have hx0 : -9223372036854775808 ≤ x ∧ x ≤ 9223372036854775807 := by omega
      have Hx0 := Lib.hid hx0
      clear hu hc hxs hx0
      go_wp2_with fail
      refine (form_any (Hv.out.stay HB2.out) (good_cd HC.out) x Hx0.out (HD1.out.below HB2.out)).mono ?_
      rintro e w3 ⟨rfl, hb3⟩
      have hb3' := HB2.out.trans (hb3.mono HB2.out.size)
      cases hf : formK (cdOf kind codes) x with
      | some Y =>
        have hYl := (formK_ne hf).2
        have Hst := Lib.hid (show encK (cdOf kind codes) p k (l.drop k) = pre8 Y (encK (cdOf kind codes) p (k + 1) (l.drop (k + 1))) by rw [Hdr.out, encK_some hf])
        clear hf
        unfold formV
        simp only [Option.getD_some, Option.isSome_some]
        have hsz3 : w2.heap.size ≤ w3.heap.size := by have := hb3.size; omega
        go_wp2_with fail
        refine (writeString_any w2.heap.size w2.heap.size out Y w3 (HI.out.stay hb3) (by omega) hsz3).mono ?_
        rintro e w4 ⟨rfl, hI4, hb4⟩
        have HR4 := Lib.hid (And.intro (encK_step (add := Y) hkl hol (by omega) Hee.out Hst.out hI4 (Blk.below (stayB HF.out hb3) hb4 (by omega)) (Hb.out.trans ((hb3.mono Hb.out.size).trans (hb4.mono hle2)))) (Lib.hid (hb3'.trans hb4)))
        clear hI4 hb4 hb3 hb3'
        go_wp2
        go_roundw
        case rel => exact HR4.out
        case measure => simp [intOf]; omega
      | none =>
        have Hst := Lib.hid (show encK (cdOf kind codes) p k (l.drop k) = pre8 (lostK (cdOf kind codes) x p) (encK (cdOf kind codes) p (k + 1) (l.drop (k + 1))) by rw [Hdr.out, encK_lost hf hp1])
        have hYl := lostK_len (cdOf kind codes) x p
        clear hf
        unfold formV
        simp only [Option.getD_none, Option.isSome_none]
        have Hv3 := Lib.hid (Hv.out.stay hb3')
        have HD3 := Lib.hid (HD1.out.below hb3')
        go_wp2_with fail
        refine (kinstead_any Hv3.out (good_cd HC.out) x p hp2 hp4 HD3.out).mono ?_
        rintro e w5 ⟨rfl, hb5⟩
        have hb35 := hb3.trans (hb5.mono hb3.size)
        generalize lostK (cdOf kind codes) x p = Y at Hst hYl
        have hsz3 : w2.heap.size ≤ w5.heap.size := by have := hb35.size; omega
        go_wp2_with fail
        refine (writeString_any w2.heap.size w2.heap.size out Y w5 (HI.out.stay hb35) (by omega) hsz3).mono ?_
        rintro e w4 ⟨rfl, hI4, hb4⟩
        have HR4 := Lib.hid (And.intro (encK_step (add := Y) hkl hol hYl Hee.out Hst.out hI4 (Blk.below (stayB HF.out hb35) hb4 (by omega)) (Hb.out.trans ((hb35.mono Hb.out.size).trans (hb4.mono hle2)))) (Lib.hid ((HB2.out.trans (hb35.mono HB2.out.size)).trans hb4)))
        clear hI4 hb4 hb3 hb3' hb5 hb35
        go_wp2
        go_roundw
        case rel => exact HR4.out
        case measure => simp [intOf]; omega
    · have Hok := Lib.hid (show encF (cdOf kind codes) p l = out by
        have h1 := HEe.out
        rw [Hee.out, List.drop_of_length_le (by rw [Hl.out]; omega), encK] at h1
        simp [pre8] at h1; exact h1.symm)
      have hki : ¬ (k : Int) < (nl : Int) := by omega
      go_wp2_with fail
      refine (string_any w2.heap.size w2.heap.size out wr HI.out (by omega)).mono ?_
      rintro e w4 ⟨rfl, hb4⟩
      have hF2 := Blk.below HF.out hb4 (by omega)
      have z0 := hF2.cell 0
      have z1 := hF2.cell 1
      have f0 := hF2.frozen 0
      have f1 := hF2.frozen 1
      have hF3 := (hF2.set_ 0 (.int .i64 0)).set_ 1 (.int .i64 0)
      have bF := ((Hb.out.trans (hb4.mono hle2)).setCell (p := ⟨w.heap.size + 1, 0, none⟩) (by simp) (.int .i64 0)).setCell (p := ⟨w.heap.size + 1, 1, none⟩) (by simp) (.int .i64 0)
      have D := Lib.hid (And.intro (hF3.cell 0) (hF3.cell 1))
      have BF := Lib.hid bF
      clear hF3 bF
      go_wp2
      obtain ⟨d0, d1⟩ := D.out
      have bF := BF.out
      clear D BF z0 z1 f0 f1 hF2
      generalize World.setCell (World.setCell _ ⟨w.heap.size + 1, 0, none⟩ (.int .i64 0)) ⟨w.heap.size + 1, 1, none⟩ (.int .i64 0) = V at d0 d1 bF ⊢
      exact bodyPost_ret (v := .tuple #[.string ⟨out.toArray⟩, .agg #[.int .i64 0, .int .i64 0]]) (by simp [results, Tryd.results47, go_sem] at d0 d1 ⊢; simp [d0, d1]) rfl ⟨by rw [Hok.out], bF⟩
end Go.Proofs.YtbcbmmgfdobdiaaDoor
