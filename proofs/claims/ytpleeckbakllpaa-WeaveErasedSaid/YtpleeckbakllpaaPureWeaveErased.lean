/- Bytes are those of an erased page, if so few bits of them are not set; no condition. -/
import Derived.Test.YtpleeckbakllpaaWvS
import Derived.Test.YtpleeckbakllpaaXWvx16
namespace Go.Proofs.Ytpleeckbakllpaa.Pure
open Go.RowKit Go.Proofs.Ytpleeckbakllpaa.XWv Go.Proofs.YtpleeckbakllpaaX.PrintWords Go.Proofs.YtpleeckbakllpaaX.PrintLast Go.Proofs.YtpleeckbakllpaaX.PrintMore Go.Proofs.Ytpleeckbakllpaa.Gf
set_option linter.unusedSimpArgs false
set_option linter.unusedVariables false
/-- How many rounds it takes till a byte is 0. -/
def pcn : Nat → Nat → Nat
  | 0, _ => 0
  | n + 1, v => if v = 0 then 0 else 1 + pcn n (v &&& (v - 1))
/-- How many bits of a byte are not set, from one on. -/
def zc (v : Nat) : Nat → Nat → Nat
  | _, 0 => 0
  | j, r + 1 => (if v / 2 ^ j % 2 = 0 then 1 else 0) + zc v (j + 1) r
theorem same : ∀ v, v < 256 → pcn 255 (v ^^^ 255) = zc v 0 8 := by decide +kernel
theorem zc_le (v r : Nat) : ∀ j, zc v j r ≤ r := by
  induction r with
  | zero => intro j; exact Nat.le_refl _
  | succ r ih =>
    intro j
    have := ih (j + 1)
    show (if v / 2 ^ j % 2 = 0 then 1 else 0) + zc v (j + 1) r ≤ r + 1
    split <;> omega
theorem pcn_le (n : Nat) : ∀ v, pcn n v ≤ n := by
  induction n with
  | zero => intro v; exact Nat.le_refl _
  | succ n ih =>
    intro v
    have := ih (v &&& (v - 1))
    show (if v = 0 then 0 else 1 + pcn n (v &&& (v - 1))) ≤ n + 1
    split <;> omega
/-- How many bits of bytes are not set, of the first ones. -/
def zs (t : ByteArray) : Nat → Nat
  | 0 => 0
  | i + 1 => zs t i + zc (bat t i).n 0 8
theorem zs_le (t : ByteArray) (i : Nat) : zs t i ≤ 8 * i := by
  induction i with
  | zero => exact Nat.le_refl _
  | succ i ih => have := zc_le (bat t i).n 8 0; show zs t i + _ ≤ _; omega
theorem er_in (t : ByteArray) (few : Int) (N i : Nat) (hi : i < 1000000) {R : Bool} (n : Nat) : ∀ (v c : Nat), v ≤ n → v < 256 → c + n < 1000000 →
    Ev (fun k => weave_Erased.l0 k t few ((c + pcn n v : Nat) : Int) (N : Int) ((i + 1 : Nat) : Int)) R → Ev (fun k => weave_Erased.l1 k t few (c : Int) (v : Int) (N : Int) (i : Int)) R := by
  have ei : wrap64 ((i : Int) + 1) = ((i + 1 : Nat) : Int) := by rw [w64 (by omega) (by omega)]; omega
  have zero : ∀ c : Nat, Ev (fun k => weave_Erased.l0 k t few (c : Int) (N : Int) ((i + 1 : Nat) : Int)) R → Ev (fun k => weave_Erased.l1 k t few (c : Int) ((0 : Nat) : Int) (N : Int) (i : Int)) R := fun c h => by
    refine Ev.step (fun k => ?_) h
    rw [weave_Erased.l1, if_neg (by omega), ei]
  induction n with
  | zero =>
    intro v c hv _ _ h
    obtain rfl : v = 0 := by omega
    exact zero c h
  | succ n ih =>
    intro v c hv hv2 hc h
    by_cases c0 : v = 0
    · subst c0
      rw [show pcn (n + 1) 0 = 0 from rfl] at h
      exact zero c h
    · rw [show pcn (n + 1) v = 1 + pcn n (v &&& (v - 1)) from if_neg c0, ← Nat.add_assoc] at h
      have hle : v &&& (v - 1) ≤ v - 1 := Nat.and_le_right
      refine Ev.step (fun k => ?_) (ih (v &&& (v - 1)) (c + 1) (by omega) (by omega) (by omega) h)
      rw [weave_Erased.l1, if_pos (by omega), w64 (by omega) (by omega), show ((v : Int) - 1) % 256 = ((v - 1 : Nat) : Int) by omega, u8_and_nat _ _ hv2 (by omega)]
      rfl
theorem er_loop (t : ByteArray) (few : Int) (N : Nat) (hN : t.size = N) (hN2 : N ≤ 100) (r : Nat) : ∀ i, i + r = N → Ev (fun k => weave_Erased.l0 k t few (zs t i : Nat) (N : Int) (i : Int)) (decide ((zs t N : Int) ≤ few)) := by
  induction r with
  | zero =>
    intro i hi
    obtain rfl : i = N := by omega
    refine Ev.step (f := fun _ => some (decide ((zs t i : Int) ≤ few))) (fun k => ?_) (Ev.now _)
    rw [weave_Erased.l0, if_neg (by omega)]
  | succ r ih =>
    intro i hi
    have hz := zs_le t i
    have h := ih (i + 1) (by omega)
    rw [show zs t (i + 1) = zs t i + zc (bat t i).n 0 8 from rfl, ← same _ (bat t i).n_lt] at h
    have hx : (bat t i).n ^^^ 255 < 256 := Nat.xor_lt_two_pow (n := 8) (bat t i).n_lt (by omega)
    refine Ev.step (fun k => ?_) (er_in t few N i (by omega) 255 _ (zs t i) (by omega) hx (by omega) h)
    rw [weave_Erased.l0, if_pos (by omega), if_pos (by omega), if_pos (by omega), bt_bat]
    rw [show Go.bits .xor .u8 (I (bat t i)) 255 = (((bat t i).n ^^^ 255 : Nat) : Int) from u8_xor_nat _ 255 (bat t i).n_lt (by omega)]
theorem cnt_in (t : ByteArray) (few : Int) (i : Nat) (hi : i < t.size) (ht : t.size ≤ 100) {R : Bool} (r : Nat) : ∀ (j c : Nat), j + r = 8 → c + r < 1000000 →
    Ev (fun k => tinderboxlaw29_WeaveErased.l0 k t ((c + zc (bat t i).n j r : Nat) : Int) few ((i + 1 : Nat) : Int)) R → Ev (fun k => tinderboxlaw29_WeaveErased.l1 k t (c : Int) few (i : Int) (j : Int)) R := by
  have ei : wrap64 ((i : Int) + 1) = ((i + 1 : Nat) : Int) := by rw [w64 (by omega) (by omega)]; omega
  induction r with
  | zero =>
    intro j c hj _ h
    refine Ev.step (fun k => ?_) h
    rw [tinderboxlaw29_WeaveErased.l1, if_neg (by omega), ei]
    rfl
  | succ r ih =>
    intro j c hj hc h
    have ej : wrap64 ((j : Int) + 1) = ((j + 1 : Nat) : Int) := by rw [w64 (by omega) (by omega)]; omega
    have eu : IntKind.u64.wrap (j : Int) = (j : Int) := by rw [IntKind.wrap_u64]; omega
    have es : Int.tmod (shr .u8 (bt t (i : Int)) (j : Int)) 2 = (((bat t i).n / 2 ^ j % 2 : Nat) : Int) := by
      rw [bt_bat]
      unfold shr
      rw [Int.toNat_natCast, show min j IntKind.u8.bits = j from Nat.min_eq_left (by show j ≤ 8; omega)]
      show Int.tmod (((bat t i).n : Int) / 2 ^ j) 2 = _
      rw [show (((bat t i).n : Int) / 2 ^ j) = (((bat t i).n / 2 ^ j : Nat) : Int) by simp]
      rfl
    rw [show zc (bat t i).n j (r + 1) = (if (bat t i).n / 2 ^ j % 2 = 0 then 1 else 0) + zc (bat t i).n (j + 1) r from rfl] at h
    by_cases d : (bat t i).n / 2 ^ j % 2 = 0
    · rw [if_pos d, ← Nat.add_assoc] at h
      refine Ev.step (fun k => ?_) (ih (j + 1) (c + 1) (by omega) (by omega) h)
      rw [tinderboxlaw29_WeaveErased.l1, if_pos (by omega), if_pos (by omega), if_pos (by omega), eu, if_pos (by omega), es, if_pos (by omega), ej, w64 (n := (c : Int) + 1) (by omega) (by omega)]
      rfl
    · rw [if_neg d, Nat.zero_add] at h
      refine Ev.step (fun k => ?_) (ih (j + 1) c (by omega) (by omega) h)
      rw [tinderboxlaw29_WeaveErased.l1, if_pos (by omega), if_pos (by omega), if_pos (by omega), eu, if_pos (by omega), es, if_neg (by omega), ej]
theorem cnt_loop (t : ByteArray) (few : Int) (ht : t.size ≤ 100) (r : Nat) : ∀ i, i + r = t.size → Ev (fun k => tinderboxlaw29_WeaveErased.l0 k t (zs t i : Nat) few (i : Int)) true := by
  induction r with
  | zero =>
    intro i hi
    obtain rfl : i = t.size := by omega
    have he := er_loop t few t.size rfl ht t.size 0 (by omega)
    refine Ev.step (f := fun k => (tinderboxlaw29_awake.f k).bind fun t537 => (if t537 = true then ((weave_Erased.f k t few).bind fun t538 => (some (t538 == (decide ((zs t t.size : Int) ≤ few))))) else (some false))) (fun k => ?_) (Ev.bind awake_ev (ifp rfl (Ev.bind he ?_)))
    · rw [tinderboxlaw29_WeaveErased.l0, if_neg (by omega)]
    · rw [beq_self_eq_true]
      exact Ev.now _
  | succ r ih =>
    intro i hi
    have hz := zs_le t i
    refine Ev.step (fun k => ?_) (cnt_in t few i (by omega) ht 8 0 (zs t i) (by omega) (by omega) (ih (i + 1) (by omega)))
    rw [tinderboxlaw29_WeaveErased.l0, if_pos (by omega)]
    rfl
theorem WeaveErased : tinderboxlaw29_WeaveErased.Pure := by
  intro a0 a1 _ _
  apply Ev.rounds
  have em : mn (a0.size : Int) 100 = ((min a0.size 100 : Nat) : Int) := by unfold mn; split <;> omega
  have hts : (a0.extract 0 (min a0.size 100)).size = min a0.size 100 := by rw [ByteArray.size_extract]; omega
  refine Ev.congr (fun k => ?_) (cnt_loop (a0.extract 0 (min a0.size 100)) (Go.bits .and .i64 a1 63) (by omega) _ 0 (Nat.zero_add _))
  unfold tinderboxlaw29_WeaveErased.f
  rw [em, if_pos (by omega), if_pos (by omega), Int.toNat_natCast]
  rfl
end Go.Proofs.Ytpleeckbakllpaa.Pure
