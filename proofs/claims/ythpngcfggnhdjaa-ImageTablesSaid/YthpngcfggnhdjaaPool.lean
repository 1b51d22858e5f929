/- Plain mathematics of pools: which are valid, and how their bytes are read. -/
import Derived.Test.YthpngcfggnhdjaaShut
import Derived.Test.YthpngcfggnhdjaaWk
namespace Go.Proofs.Ythpngcfggnhdjaa
open Go.RowKit Go.Proofs.Img

/-- starts and lengths lie within n codes -/
def okP (n : Nat) : List Int → List Int → Bool
  | s :: S, l :: L => decide (0 ≤ s ∧ 0 ≤ l ∧ s + l ≤ (n : Int)) && okP n S L
  | [], [] => true
  | _, _ => false
structure Pl where
  codes : List Int
  starts : List Int
  lengths : List Int
def Pl.none : Pl := ⟨[], [], []⟩
def Pl.ok (p : Pl) : Bool := okP p.codes.length p.starts p.lengths
theorem okP_len : ∀ (n : Nat) (S L : List Int), okP n S L = true → S.length = L.length := by
  intro n S
  induction S with
  | nil => intro L h; cases L with
    | nil => rfl
    | cons => simp [okP] at h
  | cons s S ih => intro L h; cases L with
    | nil => simp [okP] at h
    | cons l L => simp only [okP, Bool.and_eq_true] at h; simp [ih L h.2]
theorem okP_false_len (n : Nat) (S L : List Int) (h : S.length ≠ L.length) : okP n S L = false := by
  cases hk : okP n S L with
  | false => rfl
  | true => exact absurd (okP_len n S L hk) h
/-- the pool of a body, or the first error -/
def bodyP (s : List UInt8) : Except Int Pl :=
  match readL s with
  | .error e => .error e
  | .ok (a, i) =>
    match readL (s.drop i) with
    | .error e => .error e
    | .ok (b, j) =>
      match readL (s.drop (i + j)) with
      | .error e => .error e
      | .ok (c, k) => if i + j + k = s.length then .ok ⟨a, b, c⟩ else .error 2
def poolR (s : List UInt8) : Pl × Int :=
  if (openR s).2 ≠ 0 then (Pl.none, (openR s).2)
  else match bodyP (openR s).1 with
    | .error e => (Pl.none, e)
    | .ok p => if p.ok = true then (p, 0) else (Pl.none, 11)
def poolB (p : Pl) : List UInt8 := intsB p.codes ++ intsB p.starts ++ intsB p.lengths
def poolW (p : Pl) : List UInt8 × Int := if p.ok = true then (shutB (poolB p), 0) else ([], 11)
theorem fnv_bnd (l : List UInt8) : (shutB l).length = l.length + 4 := by simp [shutB, fourB]
theorem open_shut (l : List UInt8) : openR (shutB l) = (l, 0) := by
  have h4 : ¬ (shutB l).length < 4 := by rw [fnv_bnd]; omega
  have hd : (shutB l).drop 4 = l := by simp [shutB, fourB]
  rw [openR, if_neg h4, hd, if_pos rfl]
theorem pool_back (p : Pl) (h1 : ∀ x ∈ p.codes, I64 x) (h2 : ∀ x ∈ p.starts, I64 x) (h3 : ∀ x ∈ p.lengths, I64 x) (l1 : p.codes.length ≤ 1000000) (l2 : p.starts.length ≤ 1000000) (l3 : p.lengths.length ≤ 1000000) (hok : p.ok = true) :
    poolR (shutB (poolB p)) = (p, 0) := by
  have e1 : readL (poolB p) = .ok (p.codes, (intsB p.codes).length) := by
    rw [poolB, List.append_assoc]; exact readL_all p.codes _ h1 l1
  have d1 : (poolB p).drop (intsB p.codes).length = intsB p.starts ++ intsB p.lengths := by rw [poolB, List.append_assoc, List.drop_left]
  have e2 : readL ((poolB p).drop (intsB p.codes).length) = .ok (p.starts, (intsB p.starts).length) := by
    rw [d1]; exact readL_all p.starts _ h2 l2
  have d2 : (poolB p).drop ((intsB p.codes).length + (intsB p.starts).length) = intsB p.lengths := by rw [← List.drop_drop, d1, List.drop_left]
  have e3 : readL ((poolB p).drop ((intsB p.codes).length + (intsB p.starts).length)) = .ok (p.lengths, (intsB p.lengths).length) := by
    have := readL_all p.lengths [] h3 l3
    rw [List.append_nil] at this
    rw [d2]; exact this
  have hl : (intsB p.codes).length + (intsB p.starts).length + (intsB p.lengths).length = (poolB p).length := by simp [poolB]; omega
  have hb : bodyP (poolB p) = .ok p := by
    unfold bodyP
    rw [e1]; simp only
    rw [e2]; simp only
    rw [e3]; simp only
    rw [if_pos hl]
  rw [poolR, open_shut]
  simp only [ne_eq, not_true_eq_false, if_false]
  rw [hb]; simp only
  rw [if_pos hok]
end Go.Proofs.Ythpngcfggnhdjaa
