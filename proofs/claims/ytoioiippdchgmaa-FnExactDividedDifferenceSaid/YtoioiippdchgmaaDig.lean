/-
  The digits of a key. Plain Lean.
-/
import Derived.Test.YtoioiippdchgmaaKey
namespace Go.Proofs.Ytoioiippdchgmaa
set_option linter.unusedVariables false

def digits : Nat → Int → List Int
  | 0, _ => []
  | n + 1, k => k % 128 :: digits n (k / 128)
theorem digits_len : ∀ (n : Nat) (k : Int), (digits n k).length = n
  | 0, _ => rfl
  | n + 1, k => by rw [digits, List.length_cons, digits_len n]
theorem digits_key : ∀ (l : List Int), Exps l → digits l.length (keyOf l) = l
  | [], _ => rfl
  | e :: es, h => by
    have h0 := h e (List.mem_cons_self ..)
    have h1 : (e + 128 * keyOf es) % 128 = e := by omega
    have h2 : (e + 128 * keyOf es) / 128 = keyOf es := by omega
    rw [List.length_cons, keyOf, digits, h1, h2, digits_key es (fun x hx => h x (List.mem_cons_of_mem _ hx))]
theorem key_inj {a b : List Int} (ha : Exps a) (hb : Exps b) (hl : a.length = b.length) (h : keyOf a = keyOf b) : a = b := by
  rw [← digits_key a ha, ← digits_key b hb, hl, h]

end Go.Proofs.Ytoioiippdchgmaa
