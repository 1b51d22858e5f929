/- The walks of the statements about layer 4 that need no reference. -/
import Derived.Test.YtpkikgdcmhbehaaDoorU16A
import Derived.Test.YtpkikgdcmhbehaaDoorU16P
import Derived.Test.YtpkikgdcmhbehaaDoorR16E
namespace Go.Proofs.YtpkikgdcmhbehaaDoor
open Go.RowKit

theorem encodeH (A : Option Addr) (n cap : Nat) (l o : List Int) (p e a : Int) (w : World) (h : Reads w w.heap.size 1 A n (l.map iv)) (hn : n ≤ 100000) (hd : Dig w) (hR : encR l p = (o, e, a)) :
    Calls Tryd.prog 11 #[.slice A n cap, .int .i64 p] w fun x w' => ∃ A' c', x = .returned (.tuple #[.slice A' o.length c', .agg #[.int .i64 e, .int .i64 a]]) ∧ Reads w' w'.heap.size 1 A' o.length (o.map iv) ∧ Below w.heap.size w w' :=
  (encode_any w.heap.size n cap A l p w h (Nat.le_refl _) hn hd).mono fun x w' ⟨v, h1, h2, h3⟩ => by
    rw [hR] at h1 h2
    obtain ⟨A', c', rfl, _, hr⟩ := val_of_own h2
    exact ⟨A', c', h1, hr, h3⟩
theorem decodeH (A : Option Addr) (n cap : Nat) (l o : List Int) (p e a : Int) (w : World) (h : Reads w w.heap.size 1 A n (l.map iv)) (hn : n ≤ 100000) (hd : Dig w) (hR : decR l p = (o, e, a)) :
    Calls Tryd.prog 14 #[.slice A n cap, .int .i64 p] w fun x w' => ∃ A' c', x = .returned (.tuple #[.slice A' o.length c', .agg #[.int .i64 e, .int .i64 a]]) ∧ Reads w' w'.heap.size 1 A' o.length (o.map iv) ∧ Below w.heap.size w w' :=
  (decode_any w.heap.size n cap A l p w h (Nat.le_refl _) hn hd).mono fun x w' ⟨v, h1, h2, h3⟩ => by
    rw [hR] at h1 h2
    obtain ⟨A', c', rfl, _, hr⟩ := val_of_own h2
    exact ⟨A', c', h1, hr, h3⟩
theorem unitsH (l : List UInt8) (o : List Int) (big b : Bool) (e a : Int) (w : World) (hl : l.length ≤ 100000) (hR : untR l big = (o, b, e, a)) :
    Calls Tryd.prog 18 #[.string ⟨l.toArray⟩, .bool big] w fun x w' => ∃ A' c', x = .returned (.tuple #[.slice A' o.length c', .bool b, .agg #[.int .i64 e, .int .i64 a]]) ∧ Reads w' w'.heap.size 1 A' o.length (o.map iv) ∧ Below w.heap.size w w' :=
  (units_any l big w hl).mono fun x w' ⟨v, h1, h2, h3⟩ => by
    rw [hR] at h1 h2
    obtain ⟨A', c', rfl, _, hr⟩ := val_of_own h2
    exact ⟨A', c', h1, hr, h3⟩
theorem equalH (A A' : Option Addr) (n c n' c' : Nat) (l m : List Int) (w : World) (h : Reads w w.heap.size 1 A n (l.map iv)) (h' : Reads w w.heap.size 1 A' n' (m.map iv)) (hn : n ≤ 1000000) :
    Calls Tryd.prog 13 #[.slice A n c, .slice A' n' c'] w fun x w' => x = .returned (.bool (eqB l m)) ∧ Below w.heap.size w w' :=
  (equal_any w.heap.size n c n' c' A A' l m w h h' hn).mono fun x w' ⟨h1, q, h2⟩ => ⟨h1, by subst h2; exact below_drewN (Below.refl _ _) q⟩
theorem eqB_self (l : List Int) : eqB l l = true := by simp [eqB]
theorem len_of {w : World} {A : Option Addr} {n : Nat} {l : List Int} (h : Reads w w.heap.size 1 A n (l.map iv)) : l.length = n := by have := h.1; simpa using this

theorem dec_len (p : Int) : ∀ (n : Nat) (l : List Int) (i : Nat) (o : List Int), l.length ≤ n → dec16 p i l = .ok o → o.length ≤ 10 * l.length := by
  intro n
  induction n with
  | zero => intro l i o h he; obtain rfl : l = [] := List.eq_nil_of_length_eq_zero (by omega); simp [dec16] at he; subst he; simp
  | succ n ih =>
    intro l i o h he
    cases l with
    | nil => simp [dec16] at he; subst he; simp
    | cons u t =>
      have hl : t.length ≤ n := by simpa using h
      have step : ∀ (add : List Int) (j : Nat) (t' : List Int), t'.length ≤ n → add.length ≤ 10 → pre add (dec16 p j t') = .ok o → o.length ≤ 10 + 10 * t'.length := by
        intro add j t' h1 h2 h3
        cases hr : dec16 p j t' with
        | error e => rw [hr] at h3; simp [pre] at h3
        | ok ys => rw [hr] at h3; simp [pre] at h3; subst h3; have := ih t' j ys h1 hr; simp; omega
      cases hb : bmp u with
      | true => rw [dec_bmp hb] at he; have := step _ _ _ hl (by simp) he; simp; omega
      | false =>
        by_cases hj : ∃ v t', t = v :: t' ∧ high u = true ∧ low v = true
        · obtain ⟨v, t', rfl, h1, h2⟩ := hj
          rw [dec_pair hb ⟨h1, h2⟩] at he
          have := step _ _ _ (by simp at hl; omega) (by simp) he
          simp; omega
        · rw [dec_bad hb (by intro v hv hh; cases t with
            | nil => simp at hv
            | cons w t' => simp at hv; subst hv; exact hj ⟨_, _, rfl, hh.1, hh.2⟩)] at he
          split at he
          · cases he
          · have := step _ _ _ hl (inst16_len u p) he; simp; omega

end Go.Proofs.YtpkikgdcmhbehaaDoor
