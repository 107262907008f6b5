/- The walk of cmp.Or at int; a comparison by two numbers. -/
import Derived.Test.YtdjfkehbknbocaaCmp
namespace Go.Proofs.Ytdjfkehbknbocaa
open Go.RowKit
set_option linter.unusedSimpArgs false
set_option linter.unusedVariables false

def orF (xs : List Int) : Int := (xs.find? (fun x => x != 0)).getD 0
theorem or_any (A : Option Addr) (n c : Nat) (xs : List Int) (w : World) (hA : Sl eInt 1 w A n xs) :
    Calls Try.prog 71 #[.slice A n c] w fun e w' => e = .returned (.int .i64 (orF xs)) ∧ Below w.heap.size w w' := by
  have hlen := hA.len
  have hbig := hA.big
  have HA := Lib.hid hA
  clear hA
  go_enter Try.func71, Try.ntmps71
  go_wp2
  go_loopw [8] (fun i wr => ∃ k : Nat, k ≤ n ∧ i = .int .i64 k ∧ Hid (xs.find? (fun x => x != 0) = (xs.drop k).find? (fun x => x != 0)) ∧ Hid (wr = w))
    (fun i _ => n - (intOf i).toNat)
  case atStart => exact ⟨0, Nat.zero_le _, rfl, rfl, rfl⟩
  case round =>
    obtain ⟨k, hk, rfl, HD, HW⟩ := hrel
    obtain rfl := HW.out
    by_cases hlt : k < n
    · obtain ⟨b, off, x, rfl, hb, hx, hc⟩ := HA.out.get_ hlt
      have c0 := hc 0 _ rfl
      simp only [Nat.mul_one, Nat.add_zero] at c0
      have hd : xs.drop k = x :: xs.drop (k + 1) := by
        have hkl : k < xs.length := by omega
        rw [List.drop_eq_getElem_cons hkl]
        rw [List.getElem?_eq_getElem hkl] at hx
        injection hx with hx
        rw [hx]
      by_cases hz : (x != 0) = true
      · have hr : orF xs = x := by unfold orF; rw [HD.out, hd, List.find?_cons]; simp only [hz]; rfl
        have HR := Lib.hid hr
        clear hr
        clear hc hd hx hb HA
        go_wp2
        go_ret
        exact ⟨by rw [HR.out]; rfl, Below.refl _ _⟩
      · have hz' : (x != 0) = false := by simpa using hz
        have HD2 : Hid (xs.find? (fun x => x != 0) = (xs.drop (k + 1)).find? (fun x => x != 0)) := by
          have := HD.out
          rw [hd, List.find?_cons] at this
          simp only [hz'] at this
          exact this
        clear hc hd hx hb HD hz
        go_wp2
        go_roundw
        case rel => exact ⟨k + 1, by omega, by go_num, HD2, Lib.hid trivial⟩
        case measure => simp [intOf]; omega
    · have : k = n := by omega
      subst this
      have hr : orF xs = 0 := by
        unfold orF
        rw [HD.out, List.drop_of_length_le (by omega)]
        rfl
      have HR := Lib.hid hr
      clear hr
      clear HD HA
      go_wp2
      go_ret
      exact ⟨by rw [HR.out]; rfl, Below.refl _ _⟩

theorem orF2 (a b : Int) : orF [a, b] = if a = 0 then b else a := by
  unfold orF
  by_cases h : a = 0
  · subst h
    by_cases k : b = 0
    · subst k; rfl
    · have k' : (b != 0) = true := by simpa using k
      rw [List.find?_cons, List.find?_cons, k']
      rfl
  · have h' : (a != 0) = true := by simpa using h
    rw [List.find?_cons, h', if_neg h]
    rfl
theorem orF_neg (a b c d : Int) : orF [cmpF a b, cmpF c d] < 0 ↔ (a < b ∨ (a = b ∧ c < d)) := by
  have e : orF [cmpF a b, cmpF c d] = if cmpF a b = 0 then cmpF c d else cmpF a b := by
    exact orF2 _ _
  rw [e]
  have h1 := cmpF_zero a b
  have h2 := cmpF_neg a b
  have h3 := cmpF_neg c d
  split
  · rw [h3]; omega
  · rw [h2]; omega
theorem orF_pos (a b c d : Int) : 0 < orF [cmpF a b, cmpF c d] ↔ (b < a ∨ (a = b ∧ d < c)) := by
  have e : orF [cmpF a b, cmpF c d] = if cmpF a b = 0 then cmpF c d else cmpF a b := by
    exact orF2 _ _
  rw [e]
  have h1 := cmpF_zero a b
  have h2 := cmpF_pos a b
  have h3 := cmpF_pos c d
  split
  · rw [h3]; omega
  · rw [h2]; omega
theorem cmpOK_two {α : Type} (f g : α → Int) : CmpOK (fun u v => orF [cmpF (f u) (f v), cmpF (g u) (g v)]) := by
  constructor
  · intro u v; rw [orF_neg, orF_pos]; omega
  · intro u v w h1 h2
    have := orF_pos (f u) (f v) (g u) (g v)
    rw [orF_neg] at h2 ⊢
    omega
  · intro u v w h1 h2
    have := orF_pos (f v) (f w) (g v) (g w)
    rw [orF_neg] at h1 ⊢
    omega
  · intro u v w h1 h2
    have := orF_pos (f u) (f v) (g u) (g v)
    have := orF_pos (f v) (f w) (g v) (g w)
    have := orF_pos (f u) (f w) (g u) (g w)
    omega
end Go.Proofs.Ytdjfkehbknbocaa
