/- A word begins with its text and is right, by the document too; no condition. -/
import Derived.Test.YtconplohaaohlaaGfI
import Derived.Test.YtconplohaaohlaaGfR
namespace Go.Proofs.Ytconplohaaohlaa.Pure
open Go.RowKit Go.Proofs.Ytconplohaaohlaa.XRs Go.Proofs.YtconplohaaohlaaX.PrintWords Go.Proofs.YtconplohaaohlaaX.PrintLast Go.Proofs.YtconplohaaohlaaX.PrintMore Go.Proofs.Ytconplohaaohlaa.Gf
set_option linter.unusedSimpArgs false
set_option linter.unusedVariables false
theorem RsEncodes : tinderboxlaw28_RsEncodes.Pure := by
  intro a0 a1 _ _
  obtain ⟨t, ht, h1, h2⟩ := few_ev a0
  obtain ⟨n, n1, n2, en⟩ := par31 a1
  apply Ev.rounds
  obtain ⟨r, hr, hok, he⟩ := encode_ev t n ⟨by omega, by omega, by omega, by omega⟩
  have hsz : (t ++ ofE r).size = t.size + n := by rw [ByteArray.size_append, ← toE_length (ofE r), toE_ofE, hr]
  have hex : (t ++ ofE r).extract 0 t.size = t := ByteArray.extract_append_eq_left rfl
  have hR := rright_ev (t ++ ofE r) n (by omega) (by omega)
  rw [show decide (May (t ++ ofE r).size n ∧ Ok (t ++ ofE r) n) = true from decide_eq_true ⟨⟨by omega, by omega, by omega, by omega⟩, hok⟩] at hR
  have hD := right_ev (t ++ ofE r) n (by omega) (by omega)
  rw [show decide (Ok (t ++ ofE r) n) = true from decide_eq_true hok] at hD
  refine Ev.congr (f := fun k => (rs_Encode.f k t (n : Int)).bind fun bt366 => ((tinderboxlaw28_awake.f k).bind fun t368 => (if t368 = true then (if bt366.2 = 0 then (if (bt366.1.size : Int) = (wrap64 ((t.size : Int) + (n : Int))) then (if 0 ≤ (t.size : Int) then (if (t.size : Int) ≤ (bt366.1.size : Int) then (if (bt366.1.extract 0 ((t.size : Int) : Int).toNat).toList = t.toList then ((tinderboxlaw28_right.f k bt366.1 (n : Int)).bind fun t369 => (if t369 = true then ((rs_Right.f k bt366.1 (n : Int)).bind fun t370 => (some t370)) else (some false))) else (some false)) else (none)) else (none)) else (some false)) else (some false)) else (some false)))) (fun k => by unfold tinderboxlaw28_RsEncodes.f; rw [ht, en]; rfl) ?_
  refine Ev.bind he (Ev.bind awake_ev (ifp rfl (ifp rfl (ifp ?_ (ifp (by omega) (ifp ?_ (ifp ?_ (Ev.bind hD (ifp rfl (Ev.bind hR (Ev.now _)))))))))))
  · show ((t ++ ofE r).size : Int) = _
    rw [hsz, w64 (by omega) (by omega)]
    omega
  · show _ ≤ ((t ++ ofE r).size : Int)
    omega
  · show ((t ++ ofE r).extract 0 ((t.size : Int)).toNat).toList = _
    rw [Int.toNat_natCast, hex]
end Go.Proofs.Ytconplohaaohlaa.Pure
