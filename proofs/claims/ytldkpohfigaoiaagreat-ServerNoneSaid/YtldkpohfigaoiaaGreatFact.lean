/- The list of functions that a function may come to, reckoned with a mask in place of a search; and the row's closed facts, part by part. -/
import Derived.Test.YtldkpohfigaoiaaGreatRows
import Derived.JoinedOf
import Derived.KernelRfl
set_option maxRecDepth 100000
namespace Go.Proofs.YtldkpohfigaoiaaGreat
open Go

def closB (P : Program) : Nat → List FuncId → Nat → List FuncId → List FuncId
  | 0, _, _, seen => seen.reverse
  | n + 1, todo, m, seen => match todo with
    | [] => seen.reverse
    | f :: todo => match Nat.mod (Nat.div m (Nat.pow 2 f)) 2 with
      | 0 => closB P n (((P.funcs[f]?).elim [] P.leadsTo) ++ todo) (Nat.lor m (Nat.pow 2 f)) (f :: seen)
      | _ + 1 => closB P n todo m seen

def Holds (m : Nat) (seen : List FuncId) : Prop := ∀ g, seen.contains g = m.testBit g

theorem bit_of (m g : Nat) : m.testBit g = decide ((m / 2 ^ g) % 2 = 1) := by
  rw [Nat.testBit_eq_decide_div_mod_eq]

theorem closB_eq (P : Program) : ∀ (n : Nat) (todo : List FuncId) (m : Nat) (seen : List FuncId), Holds m seen → P.closureVia n todo seen = closB P n todo m seen
  | 0, _, _, _, _ => by unfold Program.closureVia closB; rfl
  | n + 1, [], _, _, _ => by simp [Program.closureVia, closB]
  | n + 1, f :: todo, m, seen, h => by
    have hb : m.testBit f = decide ((m / 2 ^ f) % 2 = 1) := bit_of m f
    simp only [Program.closureVia, closB]
    have h2 : (m / 2 ^ f) % 2 = 0 ∨ (m / 2 ^ f) % 2 = 1 := by omega
    rcases h2 with h0 | h1
    · have hc : seen.contains f = false := by rw [h f, hb, h0]; rfl
      have h0' : Nat.mod (Nat.div m (Nat.pow 2 f)) 2 = 0 := h0
      simp only [hc, h0', Bool.false_eq_true, if_false]
      refine closB_eq P n _ _ _ fun g => ?_
      rw [List.contains_cons, h g]
      show (g == f || m.testBit g) = (m ||| 2 ^ f).testBit g
      rw [Nat.testBit_or, Nat.testBit_two_pow, Bool.or_comm]
      by_cases e : g = f
      · subst e; simp
      · simp [e, Ne.symm e]
    · have hc : seen.contains f = true := by rw [h f, hb, h1]; rfl
      have h1' : Nat.mod (Nat.div m (Nat.pow 2 f)) 2 = 0 + 1 := h1
      simp only [hc, h1', if_true]
      exact closB_eq P n _ _ _ h

def fuelOf (P : Program) : Nat := 1 + (P.funcs.toList.map fun g => (P.leadsTo g).length + 1).sum
theorem clos_eq (P : Program) (f : FuncId) : P.closure f = closB P (fuelOf P) [f] 0 [] := closB_eq P _ _ _ _ fun g => by simp

end Go.Proofs.YtldkpohfigaoiaaGreat
