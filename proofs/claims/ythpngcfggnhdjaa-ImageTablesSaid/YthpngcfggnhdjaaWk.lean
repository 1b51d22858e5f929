import Derived.Test.YthpngcfggnhdjaaAlive
import Derived.Deep.RegionHeld3
namespace Go.Proofs.Ythpngcfggnhdjaa
open Go.RowKit Go.Proofs.Img

/-- a slice of ints that came in, as the shells say it -/
def RowIn (w : World) (a : Option Addr) (len cap : Nat) (zs : List Int) : Prop :=
  (a = none ∧ len = 0 ∧ cap = 0 ∧ zs = []) ∨
  ∃ x, a = some x ∧ len ≤ cap ∧ cap ≤ maxLen ∧ zs.length = cap ∧ (∀ i, i < zs.length → w.cell? (x.add i) = some (.int .i64 (zs.getD i 0))) ∧ ∀ n ∈ zs, (Lit.int .i64 n).wf = true

set_option maxRecDepth 100000 in
set_option maxHeartbeats 1000000 in
theorem wk_rounds (a0 : Option Addr) (len0 cap0 : Nat) (z0 : List Int) (a1 : ByteArray) (a2 : Int) (w : World) (w0 : RowIn w a0 len0 cap0 z0) (w2 : (Lit.int .u16 a2).wf = true) :
    Calls Try.prog 5 #[.slice a0 len0 cap0, .string a1, .int .u16 a2] w fun e w' => e = .returned (.bool true) ∧ Below w.heap.size w w' := by
  obtain ⟨l, hr, hI, hcap⟩ := reads_of_row w0
  obtain ⟨rest, rfl⟩ : ∃ l : List UInt8, a1 = ⟨l.toArray⟩ := ⟨a1.data.toList, by simp⟩
  have HI := Lib.hid hI
  have hll : l.length = len0 := by have := hr.1; simpa using this
  have hcut : 0 ≤ a2 ∧ a2 ≤ 65535 := by simpa [Lit.wf, IntKind.min, IntKind.max, IntKind.signed, IntKind.bits] using w2
  obtain ⟨hc0, hc1⟩ := hcut
  clear w0 hI w2
  by_cases h : 60 < len0
  · have h' : (60 : Int) < (len0 : Int) := by omega
    clear hll
    go_enter Try.func5, Try.ntmps5
    go_wp2_with fail
    refine (alive_any _).mono ?_
    rintro e w1 ⟨rfl, hb⟩
    go_wp2
    go_ret
    exact ⟨rfl, hb⟩
  · have h' : ¬ (60 : Int) < (len0 : Int) := by omega
    by_cases h2 : 100 < rest.length
    · have h2' : (100 : Int) < (rest.length : Int) := by omega
      clear hll
      go_enter Try.func5, Try.ntmps5
      go_wp2_with fail
      refine (alive_any _).mono ?_
      rintro e w1 ⟨rfl, hb⟩
      go_wp2
      go_ret
      exact ⟨rfl, hb⟩
    · have h2' : ¬ (100 : Int) < (rest.length : Int) := by omega
      have hle := intsB_le l
      have hge := len_intsB1 l
      have Hok := Lib.hid (readL_all l rest HI.out (by omega))
      obtain ⟨j, hj⟩ : ∃ j : Nat, (j : Int) = a2 % ((intsB l).length : Int) := ⟨(a2 % ((intsB l).length : Int)).toNat, by have := Int.emod_nonneg a2 (b := ((intsB l).length : Int)) (by omega); omega⟩
      have hjl : j < (intsB l).length := by have := Int.emod_lt_of_pos a2 (b := ((intsB l).length : Int)) (by omega); omega
      have Hcut := Lib.hid (readL_cut l j HI.out (by omega) hjl)
      have hll1 : l.length ≤ 60 := by omega
      have hmod : a2.tmod ((intsB l).length : Int) = (j : Int) := by rw [hj, Int.tmod_eq_emod_of_nonneg hc0]
      have Hll := Lib.hid hll
      have Hj := Lib.hid hj
      clear hj hll
      generalize hS : intsB l = S at *
      have HS := Lib.hid hS
      clear hS
      have hne0 : ((S.length : Int) == 0) = false := beq_eq_false_iff_ne.2 (by omega)
      go_enter Try.func5, Try.ntmps5
      go_wp2_with fail
      refine (ints_any w.heap.size _ _ _ l w hr HI.out (Nat.le_refl _) (by omega)).mono ?_
      rintro e w1 ⟨rfl, hb1⟩
      rw [HS.out]
      go_wp2_with fail
      rw [ByteArray.mk_append_mk]
      refine (readInts_ok (S ++ rest) l S.length w1 (by simp; omega) Hok.out).mono ?_
      rintro e w2 ⟨v, rfl, ho, hb2⟩
      obtain ⟨A, c, rfl, hr2⟩ := reads_of_val ho
      have hr1 : Reads w2 w2.heap.size 1 a0 len0 (l.map iv) := ((hr.below hb1).below (hb2.mono hb1.size)).more (Nat.le_trans hb1.size hb2.size)
      go_wp2_with fail
      refine (same_any w2.heap.size _ _ _ _ _ _ l l w2 hr2 hr1 (by omega) (by omega)).mono ?_
      rintro e w3 ⟨rfl, q, rfl⟩
      rw [show SameB l l = true by simp [SameB]]
      go_wp2_with fail
      rw [ByteArray.extract_mk, List.drop_zero, Nat.sub_zero]
      have hb3 : Below w.heap.size w (w2.drewN q) := below_drewN (hb1.trans (hb2.mono hb1.size)) q
      have fin : ∀ c : Int, (c = 2 ∨ c = 1) → readL (S.take j) = .error c → Calls Try.prog 18 #[.string ⟨(S.take j).toArray⟩] (w2.drewN q) fun e w' => e = .returned (.tuple #[.slice none 0 0, .int .i64 0, .int .i64 c]) ∧ Below w.heap.size w w' := fun c hc h =>
        (readInts_err (S.take j) c (w2.drewN q) (by rw [List.length_take]; omega) (by omega) h).mono fun e w' ⟨h1, h2⟩ => ⟨h1, hb3.trans (h2.mono hb3.size)⟩
      rcases Hcut.out with h | h
      · have F := Lib.hid (fin 2 (.inl rfl) h)
        clear h fin
        refine F.out.mono ?_
        rintro e w4 ⟨rfl, hb4⟩
        go_wp2_with fail
        refine (alive_any _).mono ?_
        rintro e w5 ⟨rfl, hb5⟩
        go_wp2
        go_ret
        exact ⟨rfl, hb4.trans (hb5.mono hb4.size)⟩
      · have F := Lib.hid (fin 1 (.inr rfl) h)
        clear h fin
        refine F.out.mono ?_
        rintro e w4 ⟨rfl, hb4⟩
        go_wp2_with fail
        refine (alive_any _).mono ?_
        rintro e w5 ⟨rfl, hb5⟩
        go_wp2
        go_ret
        exact ⟨rfl, hb4.trans (hb5.mono hb4.size)⟩

theorem rd_code : ∀ (f i u : Nat) (l : List UInt8) (c : Int), rd f i u l = .error c → c = 2 ∨ c = 3 := by
  intro f
  induction f with
  | zero => intro i u l c h; simp [rd] at h; omega
  | succ f ih =>
    intro i u l c h
    cases l with
    | nil => simp [rd] at h; omega
    | cons b l =>
      rw [rd] at h
      split at h
      · injection h with h; omega
      · split at h
        · cases h
        · exact ih _ _ _ _ h
theorem readN_code {l : List UInt8} {c : Int} (h : readN l = .error c) : c = 2 ∨ c = 3 := by
  unfold readN at h
  split at h
  · rename_i e he; injection h with h; subst h; exact rd_code _ _ _ _ _ he
  · cases h
theorem rdMany_code : ∀ (n : Nat) (l : List UInt8) (c : Int), rdMany n l = .error c → c = 2 ∨ c = 3 := by
  intro n
  induction n with
  | zero => intro l c h; simp [rdMany] at h
  | succ n ih =>
    intro l c h
    rw [rdMany] at h
    split at h
    · rename_i e he; injection h with h; subst h; exact readN_code he
    · split at h
      · rename_i e he; injection h with h; subst h; exact ih _ _ he
      · cases h
theorem readL_code {l : List UInt8} {c : Int} (h : readL l = .error c) : c ≠ 0 := by
  unfold readL at h
  split at h
  · rename_i e he; injection h with h; subst h; have := readN_code he; omega
  · split at h
    · injection h with h; omega
    · split at h
      · rename_i e he; injection h with h; subst h; have := rdMany_code _ _ _ he; omega
      · cases h

set_option maxRecDepth 100000 in
set_option maxHeartbeats 1000000 in
theorem wk_minimal (a0 : ByteArray) (w : World) :
    Calls Try.prog 6 #[.string a0] w fun e w' => e = .returned (.bool true) ∧ Below w.heap.size w w' := by
  obtain ⟨l, rfl⟩ : ∃ l : List UInt8, a0 = ⟨l.toArray⟩ := ⟨a0.data.toList, by simp⟩
  by_cases h : 300 < l.length
  · have h' : (300 : Int) < (l.length : Int) := by omega
    go_enter Try.func6, Try.ntmps6
    go_wp2_with fail
    refine (alive_any _).mono ?_
    rintro e w1 ⟨rfl, hb⟩
    go_wp2
    go_ret
    exact ⟨rfl, hb⟩
  · have h' : ¬ (300 : Int) < (l.length : Int) := by omega
    cases hL : readL l with
    | error c =>
      have hc0 := readL_code hL
      have hc : (c != 0) = true := by simpa using hc0
      have HL := Lib.hid (readInts_err l c w (by omega) hc0 hL)
      clear hL hc0
      go_enter Try.func6, Try.ntmps6
      go_wp2_with fail
      refine HL.out.mono ?_
      rintro e w1 ⟨rfl, hb1⟩
      go_wp2_with fail
      refine (alive_any _).mono ?_
      rintro e w2 ⟨rfl, hb2⟩
      go_wp2
      go_ret
      exact ⟨rfl, hb1.trans (hb2.mono hb1.size)⟩
    | ok r =>
      obtain ⟨xs, k⟩ := r
      obtain ⟨hI, he, hk1, hk2⟩ := readL_min hL
      have HL := Lib.hid (readInts_ok l xs k w (by omega) hL)
      have HI := Lib.hid hI
      have He := Lib.hid he
      have hxl : xs.length ≤ 300 := by have := len_intsB xs; rw [he, List.length_take] at this; omega
      have hk1' : (1 : Int) ≤ (k : Int) := by omega
      have hk2' : (k : Int) ≤ (l.length : Int) := by omega
      clear hL hI he
      go_enter Try.func6, Try.ntmps6
      go_wp2_with fail
      refine HL.out.mono ?_
      rintro e w1 ⟨v, rfl, ho, hb1⟩
      obtain ⟨A, c, rfl, hr⟩ := reads_of_val ho
      go_wp2_with fail
      have hext : (⟨l.toArray⟩ : ByteArray).extract 0 k = ⟨(l.take k).toArray⟩ := by rw [ByteArray.extract_mk, List.drop_zero, Nat.sub_zero]
      clear ho
      have Hi : Hid (Calls Try.prog 16 #[.slice A xs.length c] w1.drew fun e w' => e = .returned (.string ⟨(l.take k).toArray⟩) ∧ Below w.heap.size w w') :=
        (ints_any w1.heap.size _ c A xs w1.drew (by exact hr) HI.out (Nat.le_refl _) (by omega)).mono fun e w' ⟨h1, h2⟩ => ⟨by rw [h1, He.out], hb1.drew.trans (h2.mono hb1.size)⟩
      go_region_held3 (fun _ => True) (trivial) (first | (go_at_call 16; refine Hi.out.mono ?_; rintro e w2 ⟨rfl, hb2⟩) | (go_at_call 15; refine (alive_any _).mono ?_; rintro e w3 ⟨rfl, hb3⟩))
      go_wp2
      go_ret
      exact ⟨rfl, hb2.trans (hb3.mono hb2.size)⟩
end Go.Proofs.Ythpngcfggnhdjaa
