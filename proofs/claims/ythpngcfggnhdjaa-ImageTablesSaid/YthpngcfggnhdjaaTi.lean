/- ImageTables: the bytes of a table and back, in plain Lean; few. -/
import Derived.Test.YthpngcfggnhdjaaTh
namespace Go.Proofs.Ythpngcfggnhdjaa
open Go.RowKit Go.Proofs.Img

def tabB (ws : List Int) (ss : List (List Int)) : List UInt8 := intsB ws ++ lsB ss
def tot (ss : List (List Int)) : Nat := (ss.map List.length).sum
theorem lists_all : ∀ (ss : List (List Int)) (r : List UInt8), (∀ l ∈ ss, (∀ x ∈ l, I64 x) ∧ l.length ≤ 1000000) → lists ss.length (lsB ss ++ r) = .ok (ss, (lsB ss).length)
  | [], r, _ => rfl
  | l :: ss, r, h => by
    have e : lsB (l :: ss) = intsB l ++ lsB ss := by simp [lsB]
    obtain ⟨h1, h2⟩ := h l (by simp)
    rw [List.length_cons, lists, e, List.append_assoc, readL_all l _ h1 h2]
    simp only [List.drop_left]
    rw [lists_all ss r (fun l hl => h l (by simp [hl]))]
    simp
theorem body_back (ws : List Int) (ss : List (List Int)) (h1 : ∀ x ∈ ws, I64 x) (l1 : ws.length ≤ 1000000) (h2 : ∀ l ∈ ss, (∀ x ∈ l, I64 x) ∧ l.length ≤ 1000000) (hn : ss.length = ws.length + 1) : bodyT (tabB ws ss) = .ok ⟨ws, ss⟩ := by
  refine bodyT_ok (readL_all ws _ h1 l1) (m := (lsB ss).length) ?_ (by simp [tabB])
  have := lists_all ss [] h2
  rw [List.append_nil] at this
  rw [← hn, tabB, List.drop_left]
  exact this
theorem table_back (ws : List Int) (ss : List (List Int)) (h1 : ∀ x ∈ ws, I64 x) (l1 : ws.length ≤ 1000000) (h2 : ∀ l ∈ ss, (∀ x ∈ l, I64 x) ∧ l.length ≤ 1000000) (hok : okT ws ss) : TR (shutB (tabB ws ss)) ⟨ws, ss⟩ 0 :=
  Or.inr ⟨_, open_shut _, Or.inr ⟨_, body_back ws ss h1 l1 h2 hok.2.1, Or.inl ⟨hok, rfl, rfl⟩⟩⟩

def accF (ws : List Int) (ss : List (List Int)) (k : Nat) : Nat := ws.length + ((ss.take k).map fun l => min l.length 10000).sum
theorem accF_succ {ws : List Int} {ss : List (List Int)} {k : Nat} (hk : k < ss.length) : accF ws ss (k + 1) = accF ws ss k + min (stg ss k).length 10000 := by
  have e : stg ss k = ss[k] := by simp [stg, List.getD, List.getElem?_eq_getElem hk]
  rw [accF, accF, List.take_succ_eq_append_getElem hk, e, List.map_append, List.sum_append, List.map_cons, List.map_nil, List.sum_cons, List.sum_nil, Nat.add_zero, Nat.add_assoc]
theorem sum_min_le : ∀ (ss : List (List Int)), (ss.map fun l => min l.length 10000).sum ≤ 5000 → (ss.map fun l => min l.length 10000).sum = tot ss ∧ ∀ l ∈ ss, l.length ≤ 5000
  | [], _ => by simp [tot]
  | l :: ss, h => by
    simp only [List.map_cons, List.sum_cons] at h
    obtain ⟨i1, i2⟩ := sum_min_le ss (by omega)
    have : min l.length 10000 = l.length := by omega
    refine ⟨by simp only [List.map_cons, List.sum_cons, tot] at i1 ⊢; omega, fun x hx => ?_⟩
    rcases List.mem_cons.1 hx with rfl | hx
    · omega
    · exact i2 x hx
theorem accF_bound (ws : List Int) (ss : List (List Int)) (k : Nat) : accF ws ss k ≤ ws.length + 10000 * k := by
  unfold accF
  have : ∀ (l : List (List Int)), (l.map fun l => min l.length 10000).sum ≤ 10000 * l.length := by
    intro l
    induction l with
    | nil => simp
    | cons x l ih => simp only [List.map_cons, List.sum_cons, List.length_cons]; omega
  have h1 := this (ss.take k)
  have h2 : (ss.take k).length ≤ k := by rw [List.length_take]; omega
  omega
structure Few (ws : List Int) (ss : List (List Int)) : Prop where
  w : ws.length ≤ 5000
  n : ss.length < 100
  t : ws.length + tot ss ≤ 5000
  s : ∀ l ∈ ss, l.length ≤ 5000
def FewE (e : Ending) (ws : List Int) (ss : List (List Int)) : Prop := ∃ r, e = .returned (.bool r) ∧ (r = true → Few ws ss)
theorem few_of {ws : List Int} {ss : List (List Int)} (h1 : accF ws ss ss.length ≤ 5000) (h2 : ss.length < 100) : Few ws ss := by
  unfold accF at h1
  rw [List.take_length] at h1
  obtain ⟨i1, i2⟩ := sum_min_le ss (by omega)
  exact ⟨by omega, h2, by omega, i2⟩

set_option maxRecDepth 100000 in
set_option maxHeartbeats 2000000 in
theorem fewT_any (A A' : Option Addr) (n c n' c' : Nat) (ws : List Int) (ss : List (List Int)) (w : World) (h : Tab w w.heap.size A n c A' n' c' ws ss) (hn : n ≤ 1000000000000000) (hn' : n' ≤ 9223372036854775807) (hs : ∀ i, (stg ss i).length ≤ 9223372036854775807) :
    Calls Try.prog 33 #[.agg #[.slice A n c, .slice A' n' c']] w fun e w' => FewE e ws ss ∧ Below w.heap.size w w' := by
  obtain ⟨hl1, hl2⟩ := h.len
  have Hl1 := Lib.hid hl1
  have Hl2 := Lib.hid hl2
  have Hs := Lib.hid hs
  have HB := Lib.hid (Blk.new w 51 #[.slice A n c, .slice A' n' c'])
  have hL : Below w.heap.size w (w.alloc (.cells #[.slice A n c, .slice A' n' c'] 51)) := newBl _ _
  have HT := Lib.hid (h.stay hL)
  have HL := Lib.hid hL
  clear hl1 hl2 hs h hL
  have g0 := HB.out.cell 0
  have g1 := HB.out.cell 1
  go_enter Try.func33, Try.ntmps33
  go_wp2
  obtain ⟨W, hW⟩ : ∃ W, W = w.alloc (.cells #[.slice A n c, .slice A' n' c'] 51) := ⟨_, rfl⟩
  rw [← hW] at HB HT HL g0 g1 ⊢
  clear hW
  go_loop [3, 4] (fun v i => ∃ k a : Nat, k ≤ n' ∧ k ≤ 100 ∧ i = .int .i64 (k : Int) ∧ v = .int .i64 (a : Int) ∧ Hid (a = accF ws ss k)) (fun _ i => n' - (intOf i).toNat)
  case atStart => exact ⟨0, n, by omega, by omega, rfl, rfl, Lib.hid (by rw [← Hl1.out]; simp [accF])⟩
  case round =>
    obtain ⟨k, a, hk, hk100, rfl, rfl, Ha⟩ := hrel
    have hab : a ≤ n + 1000000 := by have := accF_bound ws ss k; have := Ha.out; have := Hl1.out; omega
    by_cases hlt : k < n' ∧ k < 100
    · obtain ⟨hlt, hlt2⟩ := hlt
      obtain ⟨ad, A2, c2, rfl, had, hc0, _, _⟩ := HT.out.at_ hlt
      have hl0 := Hs.out k
      have Hnx := Lib.hid (accF_succ (ws := ws) (ss := ss) (k := k) (by have := Hl2.out; omega))
      generalize (stg ss k).length = L at hc0 hl0 Hnx
      have hki : (k : Int) < (n' : Int) := by omega
      have hki2 : (k : Int) < 100 := by omega
      go_wp2
      go_round
      case rel => exact ⟨k + 1, a + min L 10000, by omega, by omega, by go_num, by rw [show ((a + min L 10000 : Nat) : Int) = (a : Int) + min (L : Int) 10000 by omega], Lib.hid (by rw [Hnx.out, Ha.out])⟩
      case measure => simp [intOf]; omega
    · have hfew : Hid (a ≤ 5000 → n' < 100 → Few ws ss) := fun h1 h2 => by
        have hkn : k = ss.length := by have := Hl2.out; omega
        have := Ha.out
        rw [hkn] at this
        exact few_of (by omega) (by have := Hl2.out; omega)
      by_cases q1 : k < n'
      · have q1' : (k : Int) < (n' : Int) := by omega
        have q2' : ¬ (k : Int) < 100 := by omega
        have q3 : ¬ (n' : Int) < 100 := by omega
        clear hlt
        by_cases q4 : (a : Int) ≤ 5000
        · go_wp2
          go_ret
          exact ⟨⟨false, by simp, by simp⟩, HL.out⟩
        · go_wp2
          go_ret
          exact ⟨⟨false, by simp, by simp⟩, HL.out⟩
      · have q1' : ¬ (k : Int) < (n' : Int) := by omega
        clear hlt
        by_cases q4 : (a : Int) ≤ 5000
        · by_cases q3 : (n' : Int) < 100
          · go_wp2
            go_ret
            exact ⟨⟨true, by simp, fun _ => hfew.out (by omega) (by omega)⟩, HL.out⟩
          · go_wp2
            go_ret
            exact ⟨⟨false, by simp, by simp⟩, HL.out⟩
        · go_wp2
          go_ret
          exact ⟨⟨false, by simp, by simp⟩, HL.out⟩
end Go.Proofs.Ythpngcfggnhdjaa
