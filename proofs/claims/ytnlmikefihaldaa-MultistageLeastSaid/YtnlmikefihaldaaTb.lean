/- Tables in plain Lean: widths, the scan of a stage, blocks, keys; no program in sight. -/
import Derived.Test.YtnlmikefihaldaaWords
namespace Go.Proofs.Ytnlmikefihaldaa
open Go.RowKit

def W64 (x : Int) : Prop := -9223372036854775808 ≤ x ∧ x ≤ 9223372036854775807

/-- the bytes of a number's key -/
def key8 (n : Int) : List UInt8 := [UInt8.ofNat (n % 256).toNat, UInt8.ofNat (n / 256 % 256).toNat, UInt8.ofNat (n / 65536 % 256).toNat, UInt8.ofNat (n / 16777216 % 256).toNat,
  UInt8.ofNat (n / 4294967296 % 256).toNat, UInt8.ofNat (n / 1099511627776 % 256).toNat, UInt8.ofNat (n / 281474976710656 % 256).toNat, UInt8.ofNat (n / 72057594037927936 % 256).toNat]
def keyB (l : List Int) : List UInt8 := l.flatMap key8
theorem key8_len (n : Int) : (key8 n).length = 8 := rfl
theorem keyB_len (l : List Int) : (keyB l).length = 8 * l.length := by
  induction l with
  | nil => rfl
  | cons x l ih => rw [keyB, List.flatMap_cons, List.length_append, key8_len]; rw [keyB] at ih; rw [ih, List.length_cons]; omega
theorem ofNat_inj256 {a b : Nat} (ha : a < 256) (hb : b < 256) (h : UInt8.ofNat a = UInt8.ofNat b) : a = b := by
  have := congrArg UInt8.toNat h
  simp at this
  omega
theorem eq256 {a b : Int} (h : UInt8.ofNat (a % 256).toNat = UInt8.ofNat (b % 256).toNat) : a % 256 = b % 256 := by
  have := ofNat_inj256 (by omega) (by omega) h
  omega
theorem up256 {a b : Int} (h : a % 256 = b % 256) (h' : a / 256 = b / 256) : a = b := by omega
theorem key8_inj {a b : Int} (ha : W64 a) (hb : W64 b) (h : key8 a = key8 b) : a = b := by
  unfold W64 at ha hb
  unfold key8 at h
  simp only [List.cons.injEq, and_true] at h
  obtain ⟨h0, h1, h2, h3, h4, h5, h6, h7⟩ := h
  have g7 := eq256 h7
  have e7 : a / 72057594037927936 = b / 72057594037927936 := by omega
  have e6 : a / 281474976710656 = b / 281474976710656 := up256 (eq256 h6) (by rw [Int.ediv_ediv_of_nonneg (by decide), Int.ediv_ediv_of_nonneg (by decide)]; exact e7)
  have e5 : a / 1099511627776 = b / 1099511627776 := up256 (eq256 h5) (by rw [Int.ediv_ediv_of_nonneg (by decide), Int.ediv_ediv_of_nonneg (by decide)]; exact e6)
  have e4 : a / 4294967296 = b / 4294967296 := up256 (eq256 h4) (by rw [Int.ediv_ediv_of_nonneg (by decide), Int.ediv_ediv_of_nonneg (by decide)]; exact e5)
  have e3 : a / 16777216 = b / 16777216 := up256 (eq256 h3) (by rw [Int.ediv_ediv_of_nonneg (by decide), Int.ediv_ediv_of_nonneg (by decide)]; exact e4)
  have e2 : a / 65536 = b / 65536 := up256 (eq256 h2) (by rw [Int.ediv_ediv_of_nonneg (by decide), Int.ediv_ediv_of_nonneg (by decide)]; exact e3)
  have e1 : a / 256 = b / 256 := up256 (eq256 h1) (by rw [Int.ediv_ediv_of_nonneg (by decide), Int.ediv_ediv_of_nonneg (by decide)]; exact e2)
  exact up256 (eq256 h0) e1
theorem keyB_inj : ∀ {a b : List Int}, (∀ x ∈ a, W64 x) → (∀ x ∈ b, W64 x) → keyB a = keyB b → a = b
  | [], [], _, _, _ => rfl
  | [], y :: b, _, _, h => by have := congrArg List.length h; rw [keyB_len, keyB_len] at this; simp at this
  | x :: a, [], _, _, h => by have := congrArg List.length h; rw [keyB_len, keyB_len] at this; simp at this
  | x :: a, y :: b, ha, hb, h => by
    rw [keyB, keyB, List.flatMap_cons, List.flatMap_cons] at h
    obtain ⟨h1, h2⟩ := List.append_inj h (by rw [key8_len, key8_len])
    rw [key8_inj (ha x (by simp)) (hb y (by simp)) h1, keyB_inj (fun z hz => ha z (by simp [hz])) (fun z hz => hb z (by simp [hz])) h2]
theorem keyB_snoc (l : List Int) (k : Nat) (x : Int) (h : l[k]? = some x) : keyB (l.take (k + 1)) = keyB (l.take k) ++ key8 x := by
  obtain ⟨hk, he⟩ := List.getElem?_eq_some_iff.1 h
  rw [List.take_succ_eq_append_getElem hk, he]; simp [keyB]

/-- the widths -/
def okW (ws : List Int) : Prop := 1 ≤ ws.length ∧ ws.length ≤ 3 ∧ (∀ x ∈ ws, 1 ≤ x ∧ x ≤ 12) ∧ 9 ≤ ws.sum ∧ ws.sum ≤ 16
instance (ws : List Int) : Decidable (okW ws) := by unfold okW; infer_instance
theorem sum_bounds : ∀ {ws : List Int}, (∀ x ∈ ws, 1 ≤ x ∧ x ≤ 12) → (ws.length : Int) ≤ ws.sum ∧ ws.sum ≤ 12 * (ws.length : Int)
  | [], _ => by simp
  | x :: ws, h => by
    have h1 := h x (by simp)
    have h2 := sum_bounds (ws := ws) (fun y hy => h y (by simp [hy]))
    simp only [List.sum_cons, List.length_cons]
    omega
theorem sum_snoc {ws : List Int} {k : Nat} {x : Int} (h : ws[k]? = some x) : (ws.take (k + 1)).sum = (ws.take k).sum + x := by
  obtain ⟨hk, he⟩ := List.getElem?_eq_some_iff.1 h
  rw [List.take_succ_eq_append_getElem hk, he]; simp

/-- how many blocks a stage names, if it names them in order -/
def scan : Nat → List Int → Option Nat
  | c, [] => some c
  | c, n :: r => if n < 0 ∨ (c : Int) < n then none else scan (if n = (c : Int) then c + 1 else c) r
theorem scan_ge : ∀ {l : List Int} {c d : Nat}, scan c l = some d → c ≤ d
  | [], c, d, h => by simp [scan] at h; omega
  | n :: r, c, d, h => by
    rw [scan] at h
    split at h
    · cases h
    · have := scan_ge h
      split at this <;> omega
theorem scan_le : ∀ {l : List Int} {c d : Nat}, scan c l = some d → d ≤ c + l.length
  | [], c, d, h => by simp [scan] at h; simp; omega
  | n :: r, c, d, h => by
    rw [scan] at h
    split at h
    · cases h
    · have := scan_le h
      simp only [List.length_cons]
      split at this <;> omega
theorem scan_range : ∀ {l : List Int} {c d : Nat}, scan c l = some d → ∀ x ∈ l, 0 ≤ x ∧ x < (d : Int)
  | [], c, d, _, x, hx => by cases hx
  | n :: r, c, d, h, x, hx => by
    rw [scan] at h
    split at h
    · cases h
    · rename_i hn
      rcases List.mem_cons.1 hx with rfl | hx
      · have := scan_ge h
        split at this <;> omega
      · exact scan_range h x hx
theorem scan_drop {l : List Int} {c k : Nat} {x : Int} (h : l[k]? = some x) : scan c (l.drop k) = if x < 0 ∨ (c : Int) < x then none else scan (if x = (c : Int) then c + 1 else c) (l.drop (k + 1)) := by
  obtain ⟨a, b⟩ := List.getElem?_eq_some_iff.1 h
  rw [List.drop_eq_getElem_cons a, b, scan]
theorem scan_bad {l : List Int} {c k : Nat} {x : Int} (he : scan 0 l = scan c (l.drop k)) (h : l[k]? = some x) (hb : x < 0 ∨ (c : Int) < x) : scan 0 l = none := by
  rw [he, scan_drop h, if_pos hb]
theorem scan_new {l : List Int} {c k : Nat} {x : Int} (he : scan 0 l = scan c (l.drop k)) (h : l[k]? = some x) (hb : x = (c : Int)) : scan 0 l = scan (c + 1) (l.drop (k + 1)) := by
  rw [he, scan_drop h, if_neg (by omega), if_pos hb]
theorem scan_old {l : List Int} {c k : Nat} {x : Int} (he : scan 0 l = scan c (l.drop k)) (h : l[k]? = some x) (h0 : 0 ≤ x) (hb : x < (c : Int)) : scan 0 l = scan c (l.drop (k + 1)) := by
  rw [he, scan_drop h, if_neg (by omega), if_neg (by omega)]
theorem scan_end {l : List Int} {c k : Nat} (he : scan 0 l = scan c (l.drop k)) (h : l.length ≤ k) : scan 0 l = some c := by
  rw [he, List.drop_of_length_le h, scan]

/-- the block with an index -/
def blk (l : List Int) (size i : Nat) : List Int := (l.drop (i * size)).take size
def apart (l : List Int) (size c : Nat) : Prop := ∀ i j, i < j → j < c → blk l size i ≠ blk l size j
def refersP (a b : List Int) (size : Nat) : Prop := ∃ c, scan 0 a = some c ∧ b.length = c * size ∧ apart b size c
def stg (ss : List (List Int)) (i : Nat) : List Int := ss.getD i []
def wd (ws : List Int) (i : Nat) : Nat := (ws.getD i 0).toNat
def okT (ws : List Int) (ss : List (List Int)) : Prop :=
  okW ws ∧ ss.length = ws.length + 1 ∧ (stg ss 0).length = 1114112 / 2 ^ ws.sum.toNat ∧ ∀ i, i < ws.length → refersP (stg ss i) (stg ss (i + 1)) (2 ^ wd ws i)
def formedAt (ws : List Int) (ss : List (List Int)) (i : Nat) : Prop :=
  (stg ss (i + 1)).length % 2 ^ wd ws i = 0 ∧ ∀ x ∈ stg ss i, 0 ≤ x ∧ x < ((stg ss (i + 1)).length / 2 ^ wd ws i : Nat)
def formedT (ws : List Int) (ss : List (List Int)) : Prop :=
  okW ws ∧ ss.length = ws.length + 1 ∧ (stg ss 0).length = 1114112 / 2 ^ ws.sum.toNat ∧ ∀ i, i < ws.length → formedAt ws ss i
theorem refers_of {a b : List Int} {size c : Nat} (h1 : scan 0 a = some c) (h2 : b.length = c * size) (h3 : apart b size c) : refersP a b size := ⟨c, h1, h2, h3⟩
theorem not_refers_scan {a b : List Int} {size : Nat} (h : scan 0 a = none) : ¬ refersP a b size := by
  rintro ⟨c, h1, _⟩; rw [h] at h1; cases h1
theorem not_refers_len {a b : List Int} {size c : Nat} (h : scan 0 a = some c) (h2 : b.length ≠ c * size) : ¬ refersP a b size := by
  rintro ⟨d, h1, h3, _⟩; rw [h] at h1; injection h1 with h1; subst h1; exact h2 h3
theorem not_refers_same {a b : List Int} {size c i j : Nat} (h : scan 0 a = some c) (hij : i < j) (hj : j < c) (he : blk b size i = blk b size j) : ¬ refersP a b size := by
  rintro ⟨d, h1, _, h3⟩; rw [h] at h1; injection h1 with h1; subst h1; exact h3 i j hij hj he
theorem apart_zero (l : List Int) (size : Nat) : apart l size 0 := fun _ _ _ h => absurd h (by omega)
theorem apart_succ {l : List Int} {size k : Nat} (h : apart l size k) (hn : ∀ j, j < k → blk l size j ≠ blk l size k) : apart l size (k + 1) := by
  intro i j hij hj
  rcases Nat.lt_or_eq_of_le (Nat.le_of_lt_succ hj) with h1 | h1
  · exact h i j hij h1
  · subst h1; exact hn i hij
theorem blk_len {l : List Int} {size i c : Nat} (hl : l.length = c * size) (hi : i < c) : (blk l size i).length = size := by
  have : (i + 1) * size ≤ c * size := Nat.mul_le_mul_right size hi
  rw [Nat.succ_mul] at this
  unfold blk
  rw [List.length_take, List.length_drop]
  omega
theorem formed_of_refers {ws : List Int} {ss : List (List Int)} {i : Nat} (h : refersP (stg ss i) (stg ss (i + 1)) (2 ^ wd ws i)) : formedAt ws ss i := by
  obtain ⟨c, h1, h2, _⟩ := h
  have hp : 0 < 2 ^ wd ws i := Nat.two_pow_pos _
  refine ⟨by rw [h2]; exact Nat.mul_mod_left _ _, fun x hx => ?_⟩
  rw [h2, Nat.mul_div_cancel _ hp]
  exact scan_range h1 x hx
theorem formed_of_ok {ws : List Int} {ss : List (List Int)} (h : okT ws ss) : formedT ws ss := ⟨h.1, h.2.1, h.2.2.1, fun i hi => formed_of_refers (h.2.2.2 i hi)⟩
/-- what the reference's Valid asks beyond the form, at one stage -/
def tightAt (ws : List Int) (ss : List (List Int)) (i : Nat) : Prop :=
  scan 0 (stg ss i) = some ((stg ss (i + 1)).length / 2 ^ wd ws i) ∧ apart (stg ss (i + 1)) (2 ^ wd ws i) ((stg ss (i + 1)).length / 2 ^ wd ws i)
theorem tight_iff {ws : List Int} {ss : List (List Int)} {i : Nat} (h : formedAt ws ss i) : tightAt ws ss i ↔ refersP (stg ss i) (stg ss (i + 1)) (2 ^ wd ws i) := by
  have hp : 0 < 2 ^ wd ws i := Nat.two_pow_pos _
  constructor
  · rintro ⟨h1, h2⟩
    exact ⟨_, h1, by have := Nat.div_add_mod (stg ss (i + 1)).length (2 ^ wd ws i); rw [h.1, Nat.add_zero, Nat.mul_comm] at this; exact this.symm, h2⟩
  · rintro ⟨c, h1, h2, h3⟩
    have e : (stg ss (i + 1)).length / 2 ^ wd ws i = c := by rw [h2, Nat.mul_div_cancel _ hp]
    exact ⟨by rw [e]; exact h1, by rw [e]; exact h3⟩
theorem ok_of_tight {ws : List Int} {ss : List (List Int)} (hf : formedT ws ss) (h : ∀ i, i < ws.length → tightAt ws ss i) : okT ws ss :=
  ⟨hf.1, hf.2.1, hf.2.2.1, fun i hi => (tight_iff (hf.2.2.2 i hi)).1 (h i hi)⟩
theorem not_ok_tight {ws : List Int} {ss : List (List Int)} {i : Nat} (hf : formedT ws ss) (hi : i < ws.length) (h : ¬ tightAt ws ss i) : ¬ okT ws ss :=
  fun ho => h ((tight_iff (hf.2.2.2 i hi)).2 (ho.2.2.2 i hi))

/-- slices of slices: how they lie in memory -/
def Rows (w : World) (B : Nat) (vs : List Value) (ls : List (List Int)) : Prop :=
  vs.length = ls.length ∧ ∀ (i : Nat) (xs : List Int), ls[i]? = some xs → ∃ A c, vs[i]? = some (.slice A xs.length c) ∧ xs.length ≤ c ∧ Reads w B 1 A xs.length (xs.map iv)
theorem Rows.at_ {w : World} {B : Nat} {vs : List Value} {ls : List (List Int)} (h : Rows w B vs ls) {k : Nat} (hk : k < ls.length) :
    ∃ A c, vs[k]? = some (.slice A (stg ls k).length c) ∧ (stg ls k).length ≤ c ∧ Reads w B 1 A (stg ls k).length ((stg ls k).map iv) := by
  have e := List.getElem?_eq_getElem hk
  obtain ⟨A, c, h1, h2, h3⟩ := h.2 k _ e
  have e2 : stg ls k = ls[k] := by simp [stg, List.getD, e]
  rw [e2]
  exact ⟨A, c, h1, h2, h3⟩
theorem Rows.keep {w w' : World} {B : Nat} {vs : List Value} {ls : List (List Int)} (h : Rows w B vs ls) (hk : ∀ p : Addr, p.block < B → w'.cell? p = w.cell? p) : Rows w' B vs ls :=
  ⟨h.1, fun i xs hx => by obtain ⟨A, c, h1, h2, h3⟩ := h.2 i xs hx; exact ⟨A, c, h1, h2, h3.keep hk⟩⟩
theorem Rows.more {w : World} {B B' : Nat} {vs : List Value} {ls : List (List Int)} (h : Rows w B vs ls) (hB : B ≤ B') : Rows w B' vs ls :=
  ⟨h.1, fun i xs hx => by obtain ⟨A, c, h1, h2, h3⟩ := h.2 i xs hx; exact ⟨A, c, h1, h2, h3.more hB⟩⟩
theorem Rows.below {w w' : World} {B : Nat} {vs : List Value} {ls : List (List Int)} (h : Rows w B vs ls) (hb : Below B w w') : Rows w' B vs ls := h.keep fun _ hp => hb.cell hp
/-- a table behind its two slices -/
structure Tab (w : World) (B : Nat) (A : Option Addr) (n c : Nat) (A' : Option Addr) (n' c' : Nat) (ws : List Int) (ss : List (List Int)) : Prop where
  widths : Reads w B 1 A n (ws.map iv)
  cap : n ≤ c
  stages : ∃ vs, Reads w B 1 A' n' vs ∧ Rows w B vs ss
theorem Tab.keep {w w' : World} {B n c n' c' : Nat} {A A' : Option Addr} {ws : List Int} {ss : List (List Int)} (h : Tab w B A n c A' n' c' ws ss) (hk : ∀ p : Addr, p.block < B → w'.cell? p = w.cell? p) : Tab w' B A n c A' n' c' ws ss :=
  ⟨h.widths.keep hk, h.cap, by obtain ⟨vs, h1, h2⟩ := h.stages; exact ⟨vs, h1.keep hk, h2.keep hk⟩⟩
theorem Tab.below {w w' : World} {B n c n' c' : Nat} {A A' : Option Addr} {ws : List Int} {ss : List (List Int)} (h : Tab w B A n c A' n' c' ws ss) (hb : Below B w w') : Tab w' B A n c A' n' c' ws ss := h.keep fun _ hp => hb.cell hp
theorem Tab.more {w : World} {B B' n c n' c' : Nat} {A A' : Option Addr} {ws : List Int} {ss : List (List Int)} (h : Tab w B A n c A' n' c' ws ss) (hB : B ≤ B') : Tab w B' A n c A' n' c' ws ss :=
  ⟨h.widths.more hB, h.cap, by obtain ⟨vs, h1, h2⟩ := h.stages; exact ⟨vs, h1.more hB, h2.more hB⟩⟩
theorem Tab.len {w : World} {B n c n' c' : Nat} {A A' : Option Addr} {ws : List Int} {ss : List (List Int)} (h : Tab w B A n c A' n' c' ws ss) : ws.length = n ∧ ss.length = n' := by
  obtain ⟨vs, h1, h2⟩ := h.stages
  have := h.widths.1
  have := h1.1
  have := h2.1
  simp at *
  omega
/-- a stage's slice -/
theorem Tab.at_ {w : World} {B n c n' c' : Nat} {A A' : Option Addr} {ws : List Int} {ss : List (List Int)} (h : Tab w B A n c A' n' c' ws ss) {k : Nat} (hk : k < n') :
    ∃ ad A2 c2, A' = some ad ∧ ad.block < B ∧ w.cell? (ad.add k) = some (.slice A2 (stg ss k).length c2) ∧ (stg ss k).length ≤ c2 ∧ Reads w B 1 A2 (stg ss k).length ((stg ss k).map iv) := by
  have hl := h.len
  obtain ⟨vs, h1, h2⟩ := h.stages
  obtain ⟨ad, u, rfl, hb, hu, hc⟩ := h1.at_ hk
  obtain ⟨A2, c2, e, hcap, hr⟩ := h2.at_ (k := k) (by omega)
  rw [hu] at e
  injection e with e
  subst e
  exact ⟨ad, A2, c2, rfl, hb, hc, hcap, hr⟩
theorem getElem_wd {ws : List Int} {k : Nat} {x : Int} (h : ws[k]? = some x) : wd ws k = x.toNat := by simp [wd, List.getD, h]
theorem getElem_map_iv' {l : List Int} {j : Nat} {u : Value} (h : (l.map iv)[j]? = some u) : ∃ x, l[j]? = some x ∧ u = .int .i64 x := by
  rw [List.getElem?_map] at h
  cases e : l[j]? with
  | none => simp [e] at h
  | some x => simp [e] at h; exact ⟨x, rfl, h.symm⟩
theorem Tab.width {w : World} {B n c n' c' : Nat} {A A' : Option Addr} {ws : List Int} {ss : List (List Int)} (h : Tab w B A n c A' n' c' ws ss) (ho : okW ws) {k : Nat} (hk : k < n) :
    ∃ (ad : Addr) (x : Nat), A = some ad ∧ ad.block < B ∧ w.cell? (ad.add k) = some (.int .i64 (x : Int)) ∧ x = wd ws k ∧ 1 ≤ x ∧ x ≤ 12 := by
  obtain ⟨ad, u, rfl, hb, hu, hc⟩ := h.widths.at_ hk
  obtain ⟨x, hx, rfl⟩ := getElem_map_iv' hu
  have := ho.2.2.1 x (List.mem_of_getElem? hx)
  have e := getElem_wd hx
  refine ⟨ad, x.toNat, rfl, hb, ?_, e.symm, by omega, by omega⟩
  rw [hc]; congr 2; omega
/-- a call that tells whether p holds -/
def Says (e : Ending) (p : Prop) : Prop := ∃ r, e = .returned (.bool r) ∧ (r = true ↔ p)
theorem Says.yes {e : Ending} {p : Prop} (he : e = .returned (.bool true)) (h : p) : Says e p := ⟨true, he, by simp [h]⟩
theorem Says.no {e : Ending} {p : Prop} (he : e = .returned (.bool false)) (h : ¬ p) : Says e p := ⟨false, he, by simp [h]⟩
theorem Says.of {r : Bool} {p : Prop} (h : r = true ↔ p) : Says (.returned (.bool r)) p := ⟨r, rfl, h⟩
end Go.Proofs.Ytnlmikefihaldaa
