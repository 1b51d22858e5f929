/- multistage: the key of a block, the sum of widths, which widths are valid, refers. -/
import Derived.Test.YtnlmikefihaldaaRows
import Derived.Test.YtnlmikefihaldaaTb
import Derived.Test.YtnlmikefihaldaaMp
import Derived.WalkKit
import Derived.WalkSpells
import Derived.WalkLawsBesides
import Derived.Deep.QuietTactic
import Derived.BigQuiet
import Derived.Outline
import Derived.Lib.Hide
namespace Go.Proofs.Ytnlmikefihaldaa
open Go.RowKit
open Go.Maps (Keyed)

theorem Try.infoT5 : (Try.prog.info? 5).map (fun i => (i.zero, i.size, i.bytes)) = some (some (.int .u8 0), 1, 1) := by kernel_rfl
/-- 'append(out, x, y, ..)': elements that the statement itself has laid, onto a row of the call's own -/
theorem wpList_appNew {P : Program} {ops : Array Oper} {rest : List Oper} {o : Oper} {a : Act} {Q : Exit → Act → World → Prop} (hgd : o.guard = none) (s x : Operand) (t : TypeId)
    (ho : o.op = .call { callee := .builtin .append, args := #[s, x], argTypes := #[t, t] })
    {base : Nat} {e : TypeId} {i : TypeInfo} {z : Value} {bytes : Nat} (ht : P.underlying t = some (.slice e)) (hi : P.info? e = some i) (hz : i.zero = some z)
    (hsize : i.size = 1) (hby : i.bytes = bytes) (hzs : z.cells.size = 1) (hb24 : bytes ≤ 24)
    (w0 : World) (v : Value) (n : Nat) (xs : List Value) (hs : a.eval s = v) (hown : w0.ownsRow base e 1 v n xs)
    (m : Nat) (cs : Array Value) (news : List Value) (hcs : cs.toList = news) (hm : news.length = m) (hx : a.eval x = .slice (some ⟨w0.heap.size, 0, none⟩) m m) (hu : ∀ u ∈ news, u.oneCell' = true)
    (hn : n + m ≤ 1000000000000) (hbase : base ≤ w0.heap.size)
    (h : ∀ v' w', w'.ownsRow base e 1 v' (n + m) (xs ++ news) → Below base w0 w' → w0.grownBy w' v.ownBlock → wpList P ops Q rest (a.put o.dst v') w') :
    wpList P ops Q (o :: rest) a (w0.alloc (.cells cs e)) := by
  have hmul : (n + m) * bytes ≤ 140737488355328 := Nat.le_trans (Nat.mul_le_mul hn hb24) (by omega)
  have hr := reads_new w0 cs e news hcs
  refine wpList_append_own _ hgd s x t ho base e i z 1 bytes ht hi hz hsize hby hzs (by omega) v n xs hs (hown.alloc _) ⟨w0.heap.size, 0, none⟩ m m news hx (by omega) ?_ hu (by unfold maxLen; omega) hmul (by simp; omega) ?_
  · intro j u hj
    have hpos : 0 < news.length := by have := (List.getElem?_eq_some_iff.1 hj).1; omega
    obtain ⟨ad, h1, _, h2⟩ := hr.2 hpos
    injection h1 with h1
    subst h1
    exact h2 j u hj
  · intro v' w' h1 h2 _
    exact h v' w' h1 (((Below.refl _ _).alloc hbase _).grown h2 (by simp; omega) (fun g eg => (hown.lt g eg).1)) (grownBy_alloc_left h2)
theorem key8_bv (x : Int) : (key8 x).map bv = [.int .u8 (x % 256), .int .u8 (x / 256 % 256), .int .u8 (x / 65536 % 256), .int .u8 (x / 16777216 % 256), .int .u8 (x / 4294967296 % 256), .int .u8 (x / 1099511627776 % 256), .int .u8 (x / 281474976710656 % 256), .int .u8 (x / 72057594037927936 % 256)] := by
  have h : ∀ y : Int, bv (UInt8.ofNat (y % 256).toNat) = .int .u8 (y % 256) := fun y => by rw [bv_ofNat _ (by omega)]; congr 1; omega
  simp only [key8, List.map_cons, List.map_nil, h]
theorem keyStr : Keyed Try.prog 9 := Maps.string_keyed Try.underlying9

set_option maxRecDepth 100000 in
set_option maxHeartbeats 2000000 in
theorem key_any (A : Option Addr) (n c : Nat) (l : List Int) (w : World) (h : Reads w w.heap.size 1 A n (l.map iv)) (hn : n ≤ 1000000000) :
    Calls Try.prog 35 #[.slice A n c] w fun e w' => e = .returned (.string ⟨(keyB l).toArray⟩) ∧ Below w.heap.size w w' := by
  have hl : l.length = n := by have := h.1; simpa using this
  have Hl := Lib.hid hl
  clear hl
  obtain ⟨i0, hi, hz0, hz1, hz2⟩ := info_parts Try.infoT5
  go_enter Try.func35, Try.ntmps35
  go_wp2_with (at_make; refine wpList_make_own _ rfl _ _ 83 rfl w.heap.size 5 i0 _ 1 Try.underlying83 hi hz0 hz1 .i64 .i64 _ (8 * n) rfl rfl (by go_num) (by rw [hz2]; omega) (by unfold maxLen; omega) (Nat.le_refl _) ?_; intro w1 ho1 hg1)
  go_loopw [3, 12] (fun v i wr => ∃ k : Nat, k ≤ n ∧ i = .int .i64 k ∧ wr.ownsRow w.heap.size 5 1 v (keyB (l.take k)).length ((keyB (l.take k)).map bv) ∧ Below w.heap.size w wr) (fun _ i _ => n - (intOf i).toNat)
  case atStart => exact ⟨0, Nat.zero_le _, rfl, by simpa [keyB] using ho1, (Below.refl _ _).grown hg1 (Nat.le_refl _) (by simp)⟩
  case round =>
    obtain ⟨k, hk, rfl, ho, hb⟩ := hrel
    by_cases hlt : k < n
    · obtain ⟨ad, u, rfl, hadB, hu, hcell⟩ := (h.below hb).at_ hlt
      obtain ⟨x, hx, rfl⟩ := getElem_map_iv' hu
      have Hs := Lib.hid (keyB_snoc l k x hx)
      have hlen : (keyB (l.take k)).length ≤ 8 * n := by rw [keyB_len, List.length_take]; omega
      clear hu hx
      go_wp2_with (at_builtin; go_must (refine wpList_appNew rfl (.tmp 16) (.tmp 40) 83 rfl Try.underlying83 hi hz0 hz1 hz2 rfl (by omega) wr _ _ _ rfl ho 8 _ ((key8 x).map bv) (by rw [key8_bv]) rfl rfl (bv_one _) (by omega) hb.size ?_); intro v2 w2 ho2 hb2 _)
      go_roundw
      case rel => exact ⟨k + 1, by omega, by go_num, by rw [Hs.out]; simpa [key8_len] using ho2, hb.trans hb2⟩
      case measure => simp [intOf]; omega
    · have hcv := run_convert_own Try.underlying83 Try.underlying5 Try.underlying9 ho
      have He := Lib.hid (show l.take k = l from List.take_of_length_le (by have := Hl.out; omega))
      go_wp2
      go_ret
      exact ⟨ret_str (by rw [He.out]), hb⟩
/-- a part of a slice -/
theorem Reads.part_ {w : World} {B n : Nat} {A : Option Addr} {xs : List Value} (h : Reads w B 1 A n xs) {i m : Nat} (hi : i + m ≤ n) : Reads w B 1 (A.map (·.add i)) m ((xs.drop i).take m) := by
  have h1 := h.1
  refine ⟨by rw [List.length_take, List.length_drop]; omega, fun hm => ?_⟩
  obtain ⟨ad, rfl, hb, hc⟩ := h.2 (by omega)
  refine ⟨ad.add i, rfl, by rw [block_of_add]; exact hb, fun j u hu => ?_⟩
  rw [add_of_add]
  refine hc _ u ?_
  rw [List.getElem?_take] at hu
  split at hu
  · rw [List.getElem?_drop] at hu; exact hu
  · cases hu

set_option maxRecDepth 100000 in
set_option maxHeartbeats 2000000 in
theorem sumT_any (A : Option Addr) (n c i : Nat) (l : List Int) (w : World) (h : Reads w w.heap.size 1 A n (l.map iv)) (hc : n ≤ c) (hn : n ≤ 3) (hi : i ≤ n) (hw : ∀ x ∈ l, 1 ≤ x ∧ x ≤ 12) :
    Calls Try.prog 34 #[.slice A n c, .int .i64 (i : Int)] w fun e w' => e = .returned (.int .i64 (l.drop i).sum) ∧ w' = w := by
  have hl : l.length = n := by have := h.1; simpa using this
  have hcut := h.cut (k := i) (cap := c) hi hc
  rw [Nat.mul_one, ← List.map_drop] at hcut
  have hb : ∀ k, 0 ≤ ((l.drop i).take k).sum ∧ ((l.drop i).take k).sum ≤ 36 := fun k => by
    have := sum_bounds (ws := (l.drop i).take k) (fun x hx => hw x (List.mem_of_mem_drop (List.mem_of_mem_take hx)))
    have h2 : ((l.drop i).take k).length ≤ n := by rw [List.length_take, List.length_drop]; omega
    omega
  have Hb := Lib.hid hb
  have Hl := Lib.hid hl
  have Hw := Lib.hid hw
  have hci : i ≤ c := by omega
  have hsub : n - i ≤ c - i := by omega
  clear hb hl hw h
  obtain ⟨A2, hA2⟩ : ∃ A2, A2 = (if c = i then A else A.map (·.add i)) := ⟨_, rfl⟩
  rw [← hA2] at hcut
  by_cases hce : c = i
  · have hni : n = i := by omega
    rw [if_pos hce] at hA2
    subst hA2
    subst hce
    have hse : (l.drop c).sum = 0 := by rw [List.drop_of_length_le (by have := Hl.out; omega)]; rfl
    have Hse := Lib.hid hse
    subst hni
    clear hse
    go_enter Try.func34, Try.ntmps34
    go_wp2
    go_loop [5, 12] (fun v i => v = .int .i64 0 ∧ i = .int .i64 0) (fun _ _ => 0)
    case atStart => exact ⟨rfl, rfl⟩
    case round =>
      obtain ⟨rfl, rfl⟩ := hrel
      go_wp2
      go_ret
      exact ⟨by rw [Hse.out]; rfl, rfl⟩
  · rw [if_neg hce] at hA2
    subst hA2
    have hni : n - i ≤ 3 := by omega
    go_enter Try.func34, Try.ntmps34
    go_wp2
    generalize hm : n - i = m at hcut hni ⊢
    generalize Option.map (fun x => x.add i) A = A2 at hcut ⊢
    have Hm := Lib.hid hm
    clear hm
    go_loop [5, 12] (fun v j => ∃ k : Nat, k ≤ m ∧ j = .int .i64 k ∧ v = .int .i64 ((l.drop i).take k).sum) (fun _ j => m - (intOf j).toNat)
    case atStart => exact ⟨0, Nat.zero_le _, rfl, by simp⟩
    case round =>
      obtain ⟨k, hk, rfl, rfl⟩ := hrel
      by_cases hlt : k < m
      · obtain ⟨ad, u, rfl, hadB, hu, hcell⟩ := hcut.at_ hlt
        obtain ⟨x, hx, rfl⟩ := getElem_map_iv' hu
        have Hs := Lib.hid (sum_snoc hx)
        have hb1 := Hb.out k
        have hx1 := Hw.out x (List.mem_of_mem_drop (List.mem_of_getElem? hx))
        obtain ⟨hx2, hx3⟩ := hx1
        obtain ⟨hb2, hb3⟩ := hb1
        clear hu hx
        go_wp2
        go_round
        case rel => exact ⟨k + 1, by omega, by go_num, by rw [Hs.out]⟩
        case measure => simp [intOf]; omega
      · have He := Lib.hid (show (l.drop i).take k = l.drop i from List.take_of_length_le (by have := Hl.out; have := Hm.out; rw [List.length_drop]; omega))
        go_wp2
        go_ret
        exact ⟨by rw [He.out]; rfl, rfl⟩

set_option maxRecDepth 100000 in
set_option maxHeartbeats 2000000 in
theorem validWidths_any (A : Option Addr) (n c : Nat) (l : List Int) (w : World) (h : Reads w w.heap.size 1 A n (l.map iv)) (hc : n ≤ c) (hn : n ≤ 1000000000) :
    Calls Try.prog 42 #[.slice A n c] w fun e w' => e = .returned (.bool (decide (okW l))) ∧ w' = w := by
  have hl : l.length = n := by have := h.1; simpa using this
  by_cases h1 : n < 1
  · have H := Lib.hid (show decide (okW l) = false from decide_eq_false (by intro ho; have := ho.1; have := ho.2.1; omega))
    clear hl
    go_enter Try.func42, Try.ntmps42
    go_wp2
    go_ret
    exact ⟨by rw [H.out]; rfl, rfl⟩
  · by_cases h3 : 3 < n
    · have H := Lib.hid (show decide (okW l) = false from decide_eq_false (by intro ho; have := ho.1; have := ho.2.1; omega))
      clear hl
      go_enter Try.func42, Try.ntmps42
      go_wp2
      go_ret
      exact ⟨by rw [H.out]; rfl, rfl⟩
    · have Hl := Lib.hid hl
      clear hl
      go_enter Try.func42, Try.ntmps42
      go_wp2
      go_loop [16] (fun j => ∃ k : Nat, k ≤ n ∧ j = .int .i64 k ∧ Hid (∀ x ∈ l.take k, 1 ≤ x ∧ x ≤ 12)) (fun j => n - (intOf j).toNat)
      case atStart => exact ⟨0, Nat.zero_le _, rfl, by show ∀ x ∈ _, _; simp⟩
      case round =>
        obtain ⟨k, hk, rfl, Hk⟩ := hrel
        by_cases hlt : k < n
        · obtain ⟨ad, u, rfl, hadB, hu, hcell⟩ := h.at_ hlt
          obtain ⟨x, hx, rfl⟩ := getElem_map_iv' hu
          clear hu
          by_cases q : 1 ≤ x ∧ x ≤ 12
          · have Hk2 : Hid (∀ y ∈ l.take (k + 1), 1 ≤ y ∧ y ≤ 12) := by
              intro y hy
              obtain ⟨hkl, he⟩ := List.getElem?_eq_some_iff.1 hx
              rw [List.take_succ_eq_append_getElem hkl, he] at hy
              rcases List.mem_append.1 hy with hy | hy
              · exact Hk.out y hy
              · simp at hy; subst hy; exact q
            obtain ⟨q1, q2⟩ := q
            clear hx
            go_wp2
            go_round
            case rel => exact ⟨k + 1, by omega, by go_num, Hk2⟩
            case measure => simp [intOf]; omega
          · have H := Lib.hid (show decide (okW l) = false from decide_eq_false (fun ho => q (ho.2.2.1 x (List.mem_of_getElem? hx))))
            clear hx
            by_cases q1 : x < 1
            · go_wp2
              go_ret
              exact ⟨by rw [H.out]; rfl, rfl⟩
            · have q2 : 12 < x := by omega
              clear q
              go_wp2
              go_ret
              exact ⟨by rw [H.out]; rfl, rfl⟩
        · have hall : ∀ x ∈ l, 1 ≤ x ∧ x ≤ 12 := by
            have := Hk.out
            rw [List.take_of_length_le (by have := Hl.out; omega)] at this
            exact this
          have hsb := sum_bounds hall
          rw [Hl.out] at hsb
          have hsd : 0 ≤ l.sum ∧ l.sum ≤ 36 := by omega
          obtain ⟨hs1, hs2⟩ := hsd
          have Hall := Lib.hid hall
          have H := Lib.hid (show decide (okW l) = decide (9 ≤ l.sum ∧ l.sum ≤ 16) from decide_eq_decide.2 ⟨fun ho => ho.2.2.2, fun ho => ⟨by have := Hl.out; omega, by have := Hl.out; omega, hall, ho⟩⟩)
          clear hall hsb
          go_wp2_with fail
          refine (sumT_any A n c 0 l w h hc (by omega) (by omega) Hall.out).mono ?_
          rintro e w1 ⟨rfl, rfl⟩
          rw [List.drop_zero]
          by_cases q9 : 9 ≤ l.sum
          · by_cases q16 : l.sum ≤ 16
            · go_wp2
              go_ret
              exact ⟨by rw [H.out]; simp [q9, q16], rfl⟩
            · go_wp2
              go_ret
              exact ⟨by rw [H.out]; simp [q9], rfl⟩
          · go_wp2
            go_ret
            exact ⟨by rw [H.out]; simp; omega, rfl⟩

/-- the keys that were seen -/
def seenF (b : List Int) (size k : Nat) (s : List UInt8) : Option Bool := if s ∈ (List.range k).map (fun j => keyB (blk b size j)) then some true else none
theorem seen_zero (b : List Int) (size : Nat) : seenF b size 0 = fun _ => none := by funext s; simp [seenF]
theorem seen_mem {b : List Int} {size k : Nat} {s : List UInt8} : s ∈ (List.range k).map (fun j => keyB (blk b size j)) ↔ ∃ j, j < k ∧ keyB (blk b size j) = s := by simp
theorem seen_succ (b : List Int) (size k : Nat) : upd (seenF b size k) (keyB (blk b size k)) true = seenF b size (k + 1) := by
  funext s
  simp only [upd, seenF, List.range_succ, List.map_append, List.mem_append, List.map_cons, List.map_nil, List.mem_singleton]
  by_cases h : s = keyB (blk b size k)
  · simp [h]
  · simp [h]
theorem blk_iv (b : List Int) (size k : Nat) : ((b.map iv).drop (k * size)).take size = (blk b size k).map iv := by simp [blk, List.map_take, List.map_drop]
theorem blk_mem {b : List Int} {size k : Nat} {x : Int} (h : x ∈ blk b size k) : x ∈ b := List.mem_of_mem_drop (List.mem_of_mem_take h)

set_option maxRecDepth 100000 in
set_option maxHeartbeats 4000000 in
theorem refers_any (A A' : Option Addr) (n c n' c' size : Nat) (a b : List Int) (w : World) (h : Reads w w.heap.size 1 A n (a.map iv)) (h' : Reads w w.heap.size 1 A' n' (b.map iv)) (hcap : n' ≤ c') (hn : n ≤ 1000000000) (hn' : n' ≤ 1000000000) (hs1 : 1 ≤ size) (hs2 : size ≤ 4096) (hw : ∀ x ∈ b, W64 x) :
    Calls Try.prog 44 #[.slice A n c, .slice A' n' c', .int .i64 (size : Int)] w fun e w' => Says e (refersP a b size) ∧ Below w.heap.size w w' := by
  have hla : a.length = n := by have := h.1; simpa using this
  have hlb : b.length = n' := by have := h'.1; simpa using this
  have Hla := Lib.hid hla
  have Hlb := Lib.hid hlb
  have Hw := Lib.hid hw
  clear hla hlb hw
  have hmm := @run_makeMap Try.prog
  go_enter Try.func44, Try.ntmps44
  go_wp2
  go_loop [7, 15] (fun v i => ∃ m k : Nat, k ≤ n ∧ m ≤ k ∧ v = .int .i64 m ∧ i = .int .i64 k ∧ Hid (scan 0 a = scan m (a.drop k))) (fun _ i => n - (intOf i).toNat)
  case atStart => exact ⟨0, 0, by omega, by omega, rfl, rfl, rfl⟩
  case round =>
    obtain ⟨m, k, hk, hmk, rfl, rfl, He⟩ := hrel
    by_cases hlt : k < n
    · obtain ⟨ad, u, rfl, _, hu, hcell⟩ := h.at_ hlt
      obtain ⟨x, hx, rfl⟩ := getElem_map_iv' hu
      clear hu
      by_cases q1 : x < 0
      · have H := Lib.hid (not_refers_scan (b := b) (size := size) (scan_bad He.out hx (Or.inl q1)))
        clear hx
        go_wp2
        go_ret
        exact ⟨Says.no rfl H.out, Below.refl _ _⟩
      · by_cases q2 : (m : Int) < x
        · have H := Lib.hid (not_refers_scan (b := b) (size := size) (scan_bad He.out hx (Or.inr q2)))
          clear hx
          go_wp2
          go_ret
          exact ⟨Says.no rfl H.out, Below.refl _ _⟩
        · by_cases q3 : x = (m : Int)
          · have H := Lib.hid (scan_new He.out hx q3)
            subst q3
            clear hx
            go_wp2
            go_round
            case rel => exact ⟨m + 1, k + 1, by omega, by omega, by go_num, by go_num, H.out⟩
            case measure => simp [intOf]; omega
          · have H := Lib.hid (scan_old He.out hx (by omega) (by omega))
            have q3d : (x == (m : Int)) = false := by simpa using q3
            clear hx
            go_wp2
            go_round
            case rel => exact ⟨m, k + 1, by omega, by omega, rfl, by go_num, H.out⟩
            case measure => simp [intOf]; omega
    · have Hsc := Lib.hid (scan_end He.out (by have := Hla.out; omega))
      have hmul1 : m * size ≤ 1000000000 * 4096 := Nat.mul_le_mul (by omega) hs2
      have hmul2 : (0 : Int) ≤ (m : Int) * (size : Int) ∧ (m : Int) * (size : Int) ≤ 4096000000000 := by
        rw [← Int.natCast_mul]; omega
      obtain ⟨hm1, hm2⟩ := hmul2
      by_cases q : n' = m * size
      · have hq : ((n' : Int) != (m : Int) * (size : Int)) = false := by rw [q]; simp
        have Hq := Lib.hid q
        clear q
        go_wp2
        have hm9 : m ≤ 1000000000 := by omega
        clear hq hm1 hm2 hmul1
        go_loopw [40] (fun i wr => ∃ k : Nat, k ≤ m ∧ i = .int .i64 k ∧ Hid (apart b size k) ∧ Hid (MapIs Try.prog 9 4 Lit.string Lit.bool wr w.heap.size k (seenF b size k)) ∧ Below w.heap.size w wr) (fun i _ => m - (intOf i).toNat)
        case atStart => exact ⟨0, by omega, rfl, apart_zero _ _, by have := MapIs.made Try.prog 9 4 Lit.string Lit.bool w; rw [← seen_zero b size] at this; exact this, (Below.refl _ _).alloc (Nat.le_refl _) _⟩
        case round =>
          clear hlt He hmk hk
          obtain ⟨k, hk, rfl, Hap, Hmp, hb⟩ := hrel
          by_cases hlt : k < m
          · have hk1 : (k + 1) * size ≤ m * size := Nat.mul_le_mul_right size hlt
            rw [Nat.succ_mul] at hk1
            have hkn : k * size + size ≤ n' := by rw [Hq.out]; exact hk1
            obtain ⟨p, hp⟩ : ∃ p, p = k * size := ⟨_, rfl⟩
            rw [← hp] at hkn hk1
            have e1 : (k : Int) * (size : Int) = (p : Int) := by rw [hp]; simp
            have e2 : ((k : Int) + 1) * (size : Int) = (p : Int) + (size : Int) := by rw [Int.add_mul, e1]; simp
            have hpart := Reads.part_ h' hkn
            rw [hp, blk_iv, ← hp] at hpart
            obtain ⟨ad, rfl⟩ : ∃ ad, A' = some ad := by obtain ⟨ad, _, e, _⟩ := h'.at_ (k := 0) (by omega); exact ⟨ad, e⟩
            have Hp := Lib.hid hp
            have hpc : p < c' := by omega
            clear hp hk1
            go_wp2_with fail
            clear e1 e2 hkn
            refine (key_any _ size _ (blk b size k) wr ((hpart.below hb).more hb.size) (by omega)).mono ?_
            rintro e w2 ⟨rfl, hb2⟩
            have hkl : (keyB (blk b size k)).length ≤ maxLen := by
              have h1 : (blk b size k).length ≤ size := by unfold blk; rw [List.length_take]; omega
              rw [keyB_len]; unfold maxLen; omega
            have Hm2 := Lib.hid (Hmp.out.stay hb2)
            have hlook := Hm2.out.look keyStr Try.underlying89 (zv := false) (Try.zeroValue4 w2) (plainElem_bool Try.underlying4 false) (keyOf_str Try.underlying9 (keyB (blk b size k)) hkl)
            by_cases hseen : keyB (blk b size k) ∈ (List.range k).map (fun j => keyB (blk b size j))
            · have hf : seenF b size k (keyB (blk b size k)) = some true := by rw [seenF, if_pos hseen]
              rw [hf] at hlook
              have hlook2 : (Instr.lookup 89 (.map (some w.heap.size)) (.string ⟨(keyB (blk b size k)).toArray⟩) false).run Try.prog w2 = .ok (.bool true) w2 := hlook
              obtain ⟨j, hj, hje⟩ := seen_mem.1 hseen
              have hjb := keyB_inj (fun x hx => Hw.out x (blk_mem hx)) (fun x hx => Hw.out x (blk_mem hx)) hje
              have H := Lib.hid (not_refers_same (size := size) Hsc.out hj hlt hjb)
              clear hlook hf hje hjb hseen
              go_wp2
              go_ret
              exact ⟨Says.no rfl H.out, hb.trans (hb2.mono hb.size)⟩
            · have hf : seenF b size k (keyB (blk b size k)) = none := by rw [seenF, if_neg hseen]
              have Hf := Lib.hid hf
              rw [hf] at hlook
              have hlook2 : (Instr.lookup 89 (.map (some w.heap.size)) (.string ⟨(keyB (blk b size k)).toArray⟩) false).run Try.prog w2 = .ok (.bool false) w2 := hlook
              have Hap2 : Hid (apart b size (k + 1)) := apart_succ Hap.out (fun j hj he => hseen (seen_mem.2 ⟨j, hj, by rw [he]⟩))
              clear hlook hf hseen
              go_wp2_with (first | (at_mapUpdate; refine wpList_put rfl _ _ _ 89 rfl inj_str keyStr Try.underlying89 rfl Hm2.out (by unfold maxLen; omega) _ _ (keyB (blk b size k)) true rfl rfl (keyOf_str Try.underlying9 _ hkl) (plainElem_bool Try.underlying4 true) ?_; intro w3 hm3 hg3 hs3) | go_in)
              rw [Hf.out, seen_succ] at hm3
              go_roundw
              case rel => exact ⟨k + 1, by omega, by go_num, Hap2, Lib.hid (by simpa using hm3), hb.trans ((hb2.mono hb.size).trans ((Below.refl _ _).grown hg3 (by have := hb.size; have := hb2.size; omega) (by intro g eg; injection eg; omega)))⟩
              case measure => simp [intOf]; omega
          · have H := Lib.hid (show refersP a b size from refers_of Hsc.out (by rw [Hlb.out]; exact Hq.out) ((show k = m by omega) ▸ Hap.out))
            go_wp2
            go_ret
            exact ⟨Says.yes rfl H.out, hb⟩
      · have hq : ((n' : Int) != (m : Int) * (size : Int)) = true := by
          rw [← Int.natCast_mul]; simp; omega
        have H := Lib.hid (not_refers_len (size := size) Hsc.out (by rw [Hlb.out]; exact q))
        clear q
        go_wp2
        go_ret
        exact ⟨Says.no rfl H.out, Below.refl _ _⟩
end Go.Proofs.Ytnlmikefihaldaa
