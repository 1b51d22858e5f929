/- Plain laws of layer 4: what Encode, Decode, Bytes and Units compute undo each other. -/
import Derived.Test.YtpkikgdcmhbehaaDoorU16U
import Derived.Test.YtpkikgdcmhbehaaDoorU16B
namespace Go.Proofs.YtpkikgdcmhbehaaDoor
open Go.RowKit

theorem scal_small {c : Int} (h : scalB c = true) (hc : ¬ 65535 < c) : bmp c = true := by
  simp [scalB] at h; simp [bmp]; omega
theorem scal_big {c : Int} (h : scalB c = true) (hc : 65535 < c) : high (55296 + (c - 65536) / 1024) = true ∧ low (56320 + (c - 65536) % 1024) = true ∧ bmp (55296 + (c - 65536) / 1024) = false ∧ jn (55296 + (c - 65536) / 1024) (56320 + (c - 65536) % 1024) = c := by
  simp [scalB] at h
  refine ⟨by simp [high]; omega, by simp [low]; omega, by simp [bmp]; omega, by unfold jn; omega⟩

theorem dec_form {p : Int} {i : Nat} {c : Int} {t : List Int} (h : scalB c = true) : ∃ j, dec16 p i (form16 c ++ t) = pre [c] (dec16 p j t) := by
  by_cases hc : 65535 < c
  · obtain ⟨h1, h2, h3, h4⟩ := scal_big h hc
    refine ⟨i + 2, ?_⟩
    rw [form16, if_pos hc, pair16]
    show dec16 p i (_ :: _ :: t) = _
    rw [dec_pair h3 ⟨h1, h2⟩, h4]
  · refine ⟨i + 1, ?_⟩
    rw [form16, if_neg hc]
    exact dec_bmp (scal_small h hc)

theorem dec_enc (p : Int) : ∀ (l : List Int) (i j : Nat) (o : List Int), enc16 1 i l = .ok o → dec16 p j o = .ok l := by
  intro l
  induction l with
  | nil => intro i j o h; simp [enc16] at h; subst h; simp [dec16]
  | cons c l ih =>
    intro i j o h
    rw [enc16] at h
    split at h
    · rename_i hs
      cases hr : enc16 1 (i + 1) l with
      | error e => rw [hr] at h; simp [pre] at h
      | ok ys =>
        rw [hr] at h
        simp [pre] at h
        subst h
        obtain ⟨k, hk⟩ := dec_form (p := p) (i := j) (t := ys) hs
        rw [hk, ih _ k _ hr]; rfl
    · cases h

theorem bmp_scal {u : Int} (h : bmp u = true) : scalB u = true ∧ form16 u = [u] := by
  simp [bmp] at h
  exact ⟨by simp [scalB]; omega, by rw [form16, if_neg (by omega)]⟩
theorem pair_scal {u v : Int} (h : high u = true) (h2 : low v = true) : scalB (jn u v) = true ∧ form16 (jn u v) = [u, v] := by
  simp [high] at h; simp [low] at h2
  refine ⟨by simp [scalB, jn]; omega, ?_⟩
  rw [form16, if_pos (by unfold jn; omega), pair16]
  unfold jn
  have e1 : 55296 + (65536 + (u - 55296) * 1024 + (v - 56320) - 65536) / 1024 = u := by omega
  have e2 : 56320 + (65536 + (u - 55296) * 1024 + (v - 56320) - 65536) % 1024 = v := by omega
  rw [e1, e2]

/-- all scalar values -/
def allS (l : List Int) : Prop := ∀ c ∈ l, scalB c = true
theorem enc_all : ∀ (l : List Int) (i : Nat), allS l → ∃ o, enc16 1 i l = .ok o := by
  intro l
  induction l with
  | nil => intro i _; exact ⟨[], rfl⟩
  | cons c l ih =>
    intro i h
    obtain ⟨o, ho⟩ := ih (i + 1) (fun x hx => h x (by simp [hx]))
    exact ⟨form16 c ++ o, by rw [enc16, if_pos (h c (by simp)), ho]; rfl⟩

theorem hexFrom_mem : ∀ (f i c : Nat) (acc : List UInt8), (∀ b ∈ acc, b.toNat < 128) → ∀ b ∈ hexFrom f i c acc, b.toNat < 128 := by
  have hd : ∀ n, (dg n).toNat < 128 := by
    intro n
    unfold dg
    rcases Nat.lt_or_ge n 16 with h | h
    · have : ∀ m : Fin 16, (digL.getD m.val 0).toNat < 128 := by decide
      exact this ⟨n, h⟩
    · rw [List.getD, List.getElem?_eq_none (show digL.length ≤ n from h)]; decide
  intro f
  induction f with
  | zero => intro i c acc h b hb; exact h b hb
  | succ f ih =>
    intro i c acc h b hb
    rw [hexFrom] at hb
    split at hb
    · exact ih _ _ _ (by intro x hx; rcases List.mem_cons.1 hx with rfl | hx; exact hd _; exact h x hx) b hb
    · exact h b hb
theorem hexB_mem (c : Int) : ∀ b ∈ hexB c, b.toNat < 128 := by
  unfold hexB; split
  · exact hexFrom_mem _ _ _ _ (by simp)
  · simp
theorem esc_all (c : Int) : allS (esc16 c) := by
  intro x hx
  obtain ⟨b, hb, rfl⟩ := List.mem_map.1 hx
  have hlt : b.toNat < 128 := by
    rcases List.mem_append.1 hb with hb | hb
    · rcases List.mem_append.1 hb with hb | hb
      · simp at hb; rcases hb with rfl | rfl | rfl <;> decide
      · exact hexB_mem c b hb
    · simp at hb; subst hb; decide
  simp [scalB]; omega
theorem inst_all (c p : Int) : allS (inst16 c p) := by
  unfold inst16; split
  · exact esc_all c
  · split
    · intro x hx; simp at hx
    · intro x hx; simp at hx; subst hx; decide

/-- with another policy than Fail, Decode has no fault, and all that it returns are scalar values -/
theorem dec_other (p : Int) (hp : p ≠ 1) : ∀ (n : Nat) (l : List Int) (i : Nat), l.length ≤ n → ∃ o, dec16 p i l = .ok o ∧ allS o := by
  intro n
  induction n with
  | zero => intro l i h; obtain rfl : l = [] := List.eq_nil_of_length_eq_zero (by omega); exact ⟨[], rfl, by intro x hx; cases hx⟩
  | succ n ih =>
    intro l i h
    cases l with
    | nil => exact ⟨[], rfl, by intro x hx; cases hx⟩
    | cons u t =>
      have step : ∀ (add : List Int) (j : Nat) (t' : List Int), t'.length ≤ n → allS add → ∃ o, pre add (dec16 p j t') = .ok o ∧ allS o := by
        intro add j t' ht ha
        obtain ⟨o, ho, hs⟩ := ih t' j ht
        exact ⟨add ++ o, by rw [ho]; rfl, by intro x hx; rcases List.mem_append.1 hx with hx | hx; exact ha x hx; exact hs x hx⟩
      have hl : t.length ≤ n := by simpa using h
      cases hb : bmp u with
      | true =>
        rw [dec_bmp hb]
        exact step _ _ _ hl (by intro x hx; simp at hx; subst hx; exact (bmp_scal hb).1)
      | false =>
        by_cases hj : ∃ v t', t = v :: t' ∧ high u = true ∧ low v = true
        · obtain ⟨v, t', rfl, h1, h2⟩ := hj
          rw [dec_pair hb ⟨h1, h2⟩]
          exact step _ _ _ (by simp at hl; omega) (by intro x hx; simp at hx; subst hx; exact (pair_scal h1 h2).1)
        · rw [dec_bad hb (by intro v hv hh; cases t with
            | nil => simp at hv
            | cons w t' => simp at hv; subst hv; exact hj ⟨_, _, rfl, hh.1, hh.2⟩), if_neg hp]
          exact step _ _ _ hl (inst_all u p)

/-- with Fail: what Decode returns is encoded as the units, and is what the other policies return; a fault lies in the list -/
theorem dec_fail : ∀ (n : Nat) (l : List Int) (i : Nat), l.length ≤ n → (∃ k, dec16 1 i l = .error k ∧ i ≤ k ∧ k < i + l.length) ∨ ∃ o, dec16 1 i l = .ok o ∧ (∀ j, enc16 1 j o = .ok l) ∧ ∀ p j, dec16 p j l = .ok o := by
  intro n
  induction n with
  | zero => intro l i h; obtain rfl : l = [] := List.eq_nil_of_length_eq_zero (by omega); exact .inr ⟨[], rfl, fun _ => rfl, fun _ _ => rfl⟩
  | succ n ih =>
    intro l i h
    cases l with
    | nil => exact .inr ⟨[], rfl, fun _ => rfl, fun _ _ => rfl⟩
    | cons u t =>
      have hl : t.length ≤ n := by simpa using h
      cases hb : bmp u with
      | true =>
        rcases ih t (i + 1) hl with ⟨k, h1, h2, h3⟩ | ⟨o, h1, h2, h3⟩
        · exact .inl ⟨k, by rw [dec_bmp hb, h1]; rfl, by omega, by simp; omega⟩
        · exact .inr ⟨u :: o, by rw [dec_bmp hb, h1]; rfl, fun j => by rw [enc16, if_pos (bmp_scal hb).1, h2, (bmp_scal hb).2]; rfl, fun p j => by rw [dec_bmp hb, h3]; rfl⟩
      | false =>
        by_cases hj : ∃ v t', t = v :: t' ∧ high u = true ∧ low v = true
        · obtain ⟨v, t', rfl, g1, g2⟩ := hj
          rcases ih t' (i + 2) (by simp at hl; omega) with ⟨k, h1, h2, h3⟩ | ⟨o, h1, h2, h3⟩
          · exact .inl ⟨k, by rw [dec_pair hb ⟨g1, g2⟩, h1]; rfl, by omega, by simp; omega⟩
          · exact .inr ⟨jn u v :: o, by rw [dec_pair hb ⟨g1, g2⟩, h1]; rfl, fun j => by rw [enc16, if_pos (pair_scal g1 g2).1, h2, (pair_scal g1 g2).2]; rfl, fun p j => by rw [dec_pair hb ⟨g1, g2⟩, h3]; rfl⟩
        · refine .inl ⟨i, ?_, by omega, by simp⟩
          rw [dec_bad hb (by intro v hv hh; cases t with
            | nil => simp at hv
            | cons w t' => simp at hv; subst hv; exact hj ⟨_, _, rfl, hh.1, hh.2⟩), if_pos rfl]

theorem decR_known (l : List Int) (p : Int) (h : knownB p = true) : decR l p = outR (dec16 p 0 l) := by simp [decR, h]
theorem encR_known (l : List Int) (p : Int) (h : knownB p = true) : encR l p = outR (enc16 p 0 l) := by simp [encR, h]

/-- the bytes of units, read again -/
theorem unt_pair (big : Bool) (u : Int) (t : List UInt8) (h0 : 0 ≤ u) (h1 : u ≤ 65535) : unt big (pairB u big ++ t) = u :: unt big t := by
  have e1 : (UInt8.ofNat (u.toNat / 256)).toNat = u.toNat / 256 := by simp; omega
  have e2 : (UInt8.ofNat (u.toNat % 256)).toNat = u.toNat % 256 := by simp
  cases big with
  | true => simp only [pairB, if_true, List.cons_append, List.nil_append, unt, e1, e2]; congr 1; omega
  | false => simp only [pairB, Bool.false_eq_true, if_false, List.cons_append, List.nil_append, unt, e1, e2]; congr 1; omega
theorem byt_unt (big : Bool) : ∀ (l : List Int) (i : Nat) (o : List UInt8), byt16 big i l = .ok o → unt big o = l ∧ o.length = 2 * l.length := by
  intro l
  induction l with
  | nil => intro i o h; simp [byt16] at h; subst h; simp [unt]
  | cons u l ih =>
    intro i o h
    rw [byt16] at h
    split at h
    · rename_i hu
      cases hr : byt16 big (i + 1) l with
      | error e => rw [hr] at h; simp [preB] at h
      | ok ys =>
        rw [hr] at h
        simp [preB] at h
        subst h
        obtain ⟨a1, a2⟩ := ih _ _ hr
        rw [unt_pair big u ys hu.1 hu.2, a1]
        exact ⟨rfl, by rw [List.length_append, pair_len, a2]; simp; omega⟩
    · cases h
theorem marks (l : List Int) (big other : Bool) : (∃ k, bytR l big true = ([], 1, k)) ∨ ∃ s, bytR l big true = (s, 0, 0) ∧ untR s other = (l, big, 0, 0) ∧ s.length = 2 * l.length + 2 := by
  cases hr : byt16 big 0 l with
  | error k => exact .inl ⟨k, by rw [bytR, hr]; rfl⟩
  | ok o =>
    obtain ⟨a1, a2⟩ := byt_unt big l 0 o hr
    refine .inr ⟨markB big true ++ o, by rw [bytR, hr]; rfl, ?_, ?_⟩
    · have hm : markB big true = pairB 65279 big := rfl
      have hlen : (markB big true ++ o).length = 2 * l.length + 2 := by rw [List.length_append, hm, pair_len, a2]; omega
      have hb : bom (markB big true ++ o) other = (o, big) := by
        rw [hm]
        cases big <;> rfl
      rw [untR, if_neg (by omega), hb]
      simp only
      rw [a1]
    · have hm : markB big true = pairB 65279 big := rfl
      rw [List.length_append, hm, pair_len, a2]; omega
end Go.Proofs.YtpkikgdcmhbehaaDoor
