/- The walk of Utf16textDecodes: the code's answer is the reference's. -/
import Derived.Test.YtpkikgdcmhbehaaDoorU16W
import Derived.Test.YtpkikgdcmhbehaaDoorR16D
namespace Go.Proofs.YtpkikgdcmhbehaaDoor
open Go.RowKit

theorem rdecodeH (A : Option Addr) (n cap : Nat) (l o : List Int) (p e a : Int) (w : World) (h : Reads w w.heap.size 1 A n (l.map iv)) (hn : n ≤ 100000) (hc : n ≤ cap) (hR : decR l p = (o, e, a)) :
    Calls Tryd.prog 15 #[.slice A n cap, .int .i64 p] w fun x w' => ∃ A' c', x = .returned (.tuple #[.slice A' o.length c', .agg #[.int .i64 e, .int .i64 a]]) ∧ Reads w' w'.heap.size 1 A' o.length (o.map iv) ∧ Below w.heap.size w w' :=
  (rdecode_any w.heap.size n cap A l p w h (Nat.le_refl _) hn hc).mono fun x w' ⟨v, h1, h2, h3⟩ => by
    rw [hR] at h1 h2
    obtain ⟨A', c', rfl, _, hr⟩ := val_of_own h2
    exact ⟨A', c', h1, hr, h3⟩
theorem decode_small {l o : List Int} {p e a : Int} (h : decR l p = (o, e, a)) : o.length ≤ 10 * l.length := by
  unfold decR at h
  cases hk : knownB p with
  | false => rw [hk] at h; simp at h; obtain ⟨rfl, _, _⟩ := h; simp
  | true =>
    rw [hk] at h
    cases he : dec16 p 0 l with
    | error k => rw [he] at h; simp [outR] at h; obtain ⟨rfl, _, _⟩ := h; simp
    | ok q => rw [he] at h; simp [outR] at h; obtain ⟨rfl, _, _⟩ := h; exact dec_len p l.length l 0 q (Nat.le_refl _) he

set_option maxRecDepth 100000 in
set_option maxHeartbeats 4000000 in
theorem wk_decodes (A : Option Addr) (n cap : Nat) (l : List Int) (p : Int) (w : World) (hr : Reads w w.heap.size 1 A n (l.map iv)) (hc : n ≤ cap) (hd : Dig w) :
    Calls Tryd.prog 4 #[.slice A n cap, .int .i64 p] w fun e w' => e = .returned (.bool true) ∧ Below w.heap.size w w' := by
  have Hd := Lib.hid hd
  clear hd
  by_cases hbig : 300 < n
  · have hbig' : (300 : Int) < (n : Int) := by omega
    go_enter Tryd.func4, Tryd.ntmps4
    go_wp2_with fail
    refine (awake_any _ (Hd.out)).mono ?_
    rintro e wz ⟨rfl, bz⟩
    go_wp2
    go_ret
    exact ⟨rfl, bz⟩
  have hbig' : ¬ (300 : Int) < (n : Int) := by omega
  have hln := len_of hr
  obtain ⟨o, e, a, hR⟩ : ∃ o e a, decR l p = (o, e, a) := ⟨_, _, _, rfl⟩
  have hol := decode_small hR
  have ho : o.length ≤ 3000 := by omega
  have HR := Lib.hid hR
  clear hR hln hol
  go_enter Tryd.func4, Tryd.ntmps4
  go_wp2_with fail
  refine (decodeH A n cap l o p e a w hr (by omega) Hd.out HR.out).mono ?_
  rintro e w2 ⟨A2, c2, rfl, hr2, hb2⟩
  have f1 := hr.stay hb2
  have b2 := hb2
  clear hr
  go_wp2_with fail
  have f5 := Blk.new w2 26 #[.int .i64 e, .int .i64 a]
  have bx4 := below_new w2 (.cells #[.int .i64 e, .int .i64 a] 26)
  obtain ⟨W3, hW6⟩ : ∃ W, W = w2.alloc (.cells #[.int .i64 e, .int .i64 a] 26) := ⟨_, rfl⟩
  rw [← hW6] at f5 bx4 ⊢
  clear hW6
  have f8 := f1.stay bx4
  have f9 := hr2.stay bx4
  have b10 := b2.trans (bx4.mono b2.size)
  clear b2
  clear f1 hr2
  refine (rdecodeH A n cap l o p e a _ f8 (by omega) hc HR.out).mono ?_
  rintro x w3 ⟨A3, c3, rfl, hr3, hb3⟩
  have f11 := f8.stay hb3
  have f12 := f9.stay hb3
  have f13 := f5.stay hb3
  have b14 := b10.trans (hb3.mono b10.size)
  clear b10
  clear f8 f9 f5
  go_wp2_with fail
  have f17 := Blk.new w3 26 #[.int .i64 e, .int .i64 a]
  have bx16 := below_new w3 (.cells #[.int .i64 e, .int .i64 a] 26)
  obtain ⟨W15, hW18⟩ : ∃ W, W = w3.alloc (.cells #[.int .i64 e, .int .i64 a] 26) := ⟨_, rfl⟩
  rw [← hW18] at f17 bx16 ⊢
  clear hW18
  have f20 := f11.stay bx16
  have f21 := f12.stay bx16
  have f22 := f13.stay bx16
  have f23 := hr3.stay bx16
  have b24 := b14.trans (bx16.mono b14.size)
  clear b14
  clear f11 f12 f13 hr3
  refine (equalH A2 A3 o.length c2 o.length c3 o o _ f21 f23 (by omega)).mono ?_
  rintro e w4 ⟨rfl, hb4⟩
  rw [eqB_self]
  have f25 := f20.stay hb4
  have f26 := f21.stay hb4
  have f27 := f22.stay hb4
  have f28 := f23.stay hb4
  have f29 := f17.stay hb4
  have b30 := b24.trans (hb4.mono b24.size)
  clear b24
  clear f20 f21 f22 f23 f17
  have d0 := f27.cell 0
  have d1 := f27.cell 1
  have e0 := f29.cell 0
  have e1 := f29.cell 1
  go_wp2_with fail
  refine (awake_any _ (Hd.out.below b30)).mono ?_
  rintro e wz ⟨rfl, bz⟩
  go_wp2
  go_ret
  exact ⟨rfl, b30.trans (bz.mono b30.size)⟩
end Go.Proofs.YtpkikgdcmhbehaaDoor
