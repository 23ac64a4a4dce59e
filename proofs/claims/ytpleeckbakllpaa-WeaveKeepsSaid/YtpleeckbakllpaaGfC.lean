/- The law by which wrong bytes are found: the equation that errors obey has one solution, and a right word has no other right word near it; no condition. -/
import Derived.Test.YtpleeckbakllpaaGfB
namespace Go.Proofs.Ytpleeckbakllpaa.Gf
set_option linter.unusedSimpArgs false
set_option linter.unusedVariables false

def pr : List Nat → E → E
  | [], _ => 1
  | j :: Z, x => (1 + X j * x) * pr Z x
def om (e : Nat → E) : List Nat → E → E
  | [], _ => 0
  | j :: Z, x => e j * pr Z x + (1 + X j * x) * om e Z x
def ga (p : Nat) (e : Nat → E) : List Nat → E → E
  | [], _ => 0
  | j :: Z, x => e j * pw (X j) p * pr Z x + (1 + X j * x) * ga p e Z x
/-- A sum of powers. -/
def geo : Nat → E → E
  | 0, _ => 0
  | n + 1, y => geo n y + pw y n
theorem geo_eq (n : Nat) (y : E) : (1 + y) * geo n y = 1 + pw y n := by
  induction n with
  | zero => show _ * 0 = 1 + 1; rw [mul_zero, add_self]
  | succ n ih =>
    show (1 + y) * (geo n y + pw y n) = 1 + y * pw y n
    rw [mul_add, ih, add_mul, one_mul]; simp only [add_assoc, add_comm, add_left_comm, add_self_left]
def sz (p : Nat) (e : Nat → E) : List Nat → E → E
  | [], _ => 0
  | j :: Z, x => e j * geo p (X j * x) + sz p e Z x
theorem key (p : Nat) (e : Nat → E) (Z : List Nat) (x : E) : pr Z x * sz p e Z x = om e Z x + pw x p * ga p e Z x := by
  induction Z with
  | nil => show (1 : E) * 0 = 0 + pw x p * 0; rw [mul_zero, mul_zero, add_zero]
  | cons j Z ih =>
    show (1 + X j * x) * pr Z x * (e j * geo p (X j * x) + sz p e Z x) = e j * pr Z x + (1 + X j * x) * om e Z x + pw x p * (e j * pw (X j) p * pr Z x + (1 + X j * x) * ga p e Z x)
    have h1 : (1 + X j * x) * pr Z x * (e j * geo p (X j * x)) = e j * pr Z x * (1 + pw (X j) p * pw x p) := by
      rw [← pw_mul_base, ← geo_eq]; simp only [mul_assoc, mul_comm, mul_left_comm]
    have h2 : (1 + X j * x) * pr Z x * sz p e Z x = (1 + X j * x) * om e Z x + (1 + X j * x) * (pw x p * ga p e Z x) := by
      rw [mul_assoc, ih, mul_add]
    rw [mul_add, h1, h2]
    rw [mul_add, mul_one, mul_add (pw x p)]
    rw [show e j * pr Z x * (pw (X j) p * pw x p) = pw x p * (e j * pw (X j) p * pr Z x) by simp only [mul_assoc, mul_comm, mul_left_comm]]
    rw [show (1 + X j * x) * (pw x p * ga p e Z x) = pw x p * ((1 + X j * x) * ga p e Z x) from mul_left_comm _ _ _]
    simp only [add_assoc, add_comm, add_left_comm]

end Go.Proofs.Ytpleeckbakllpaa.Gf
