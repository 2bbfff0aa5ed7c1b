/- Facts of the given program's head, told of its letters one by one. -/
import Derived.Test.YtbfkfobfhjgphaaGreatRows
import Derived.ProofKit
set_option maxRecDepth 100000
namespace Go.Proofs.YtbfkfobfhjgphaaGreat
open Go
def headA : List Char := [Char.ofNat 104, Char.ofNat 97, Char.ofNat 114, Char.ofNat 110, Char.ofNat 101, Char.ofNat 115, Char.ofNat 115]
def headB : List Char := [Char.ofNat 52, Char.ofNat 102, Char.ofNat 49, Char.ofNat 99, Char.ofNat 55, Char.ofNat 55, Char.ofNat 99, Char.ofNat 54, Char.ofNat 55, Char.ofNat 56, Char.ofNat 100, Char.ofNat 101, Char.ofNat 98, Char.ofNat 101, Char.ofNat 57, Char.ofNat 98, Char.ofNat 57, Char.ofNat 55, Char.ofNat 56, Char.ofNat 98, Char.ofNat 51, Char.ofNat 54, Char.ofNat 54, Char.ofNat 49, Char.ofNat 55, Char.ofNat 50, Char.ofNat 51, Char.ofNat 55, Char.ofNat 101, Char.ofNat 56, Char.ofNat 50, Char.ofNat 98, Char.ofNat 55, Char.ofNat 50, Char.ofNat 102, Char.ofNat 51, Char.ofNat 48, Char.ofNat 55, Char.ofNat 48, Char.ofNat 49, Char.ofNat 49, Char.ofNat 48, Char.ofNat 54, Char.ofNat 98, Char.ofNat 54, Char.ofNat 98, Char.ofNat 57, Char.ofNat 51, Char.ofNat 49, Char.ofNat 100, Char.ofNat 54, Char.ofNat 49, Char.ofNat 53, Char.ofNat 56, Char.ofNat 101, Char.ofNat 51, Char.ofNat 98, Char.ofNat 102, Char.ofNat 49, Char.ofNat 98, Char.ofNat 99, Char.ofNat 100, Char.ofNat 55, Char.ofNat 97]
def headC : List Char := [Char.ofNat 99, Char.ofNat 117, Char.ofNat 116]
def headR : List Char := [Char.ofNat 97, Char.ofNat 116, Char.ofNat 32, Char.ofNat 115, Char.ofNat 111, Char.ofNat 117, Char.ofNat 110, Char.ofNat 100, Char.ofNat 115, Char.ofNat 101, Char.ofNat 114, Char.ofNat 118, Char.ofNat 105, Char.ofNat 99, Char.ofNat 101, Char.ofNat 47, Char.ofNat 115, Char.ofNat 111, Char.ofNat 117, Char.ofNat 110, Char.ofNat 100, Char.ofNat 115, Char.ofNat 101, Char.ofNat 114, Char.ofNat 118, Char.ofNat 105, Char.ofNat 99, Char.ofNat 101, Char.ofNat 116, Char.ofNat 111, Char.ofNat 112, Char.ofNat 46, Char.ofNat 84, Char.ofNat 111, Char.ofNat 112, Char.ofNat 83, Char.ofNat 116, Char.ofNat 114, Char.ofNat 101, Char.ofNat 97, Char.ofNat 109, Char.ofNat 115, Char.ofNat 32, Char.ofNat 115, Char.ofNat 111, Char.ofNat 117, Char.ofNat 110, Char.ofNat 100, Char.ofNat 115, Char.ofNat 101, Char.ofNat 114, Char.ofNat 118, Char.ofNat 105, Char.ofNat 99, Char.ofNat 101, Char.ofNat 47, Char.ofNat 115, Char.ofNat 111, Char.ofNat 117, Char.ofNat 110, Char.ofNat 100, Char.ofNat 115, Char.ofNat 101, Char.ofNat 114, Char.ofNat 118, Char.ofNat 105, Char.ofNat 99, Char.ofNat 101, Char.ofNat 116, Char.ofNat 111, Char.ofNat 112, Char.ofNat 46, Char.ofNat 84, Char.ofNat 111, Char.ofNat 112, Char.ofNat 66, Char.ofNat 121, Char.ofNat 116, Char.ofNat 101, Char.ofNat 115, Char.ofNat 32, Char.ofNat 115, Char.ofNat 111, Char.ofNat 117, Char.ofNat 110, Char.ofNat 100, Char.ofNat 115, Char.ofNat 101, Char.ofNat 114, Char.ofNat 118, Char.ofNat 105, Char.ofNat 99, Char.ofNat 101, Char.ofNat 47, Char.ofNat 115, Char.ofNat 111, Char.ofNat 117, Char.ofNat 110, Char.ofNat 100, Char.ofNat 115, Char.ofNat 101, Char.ofNat 114, Char.ofNat 118, Char.ofNat 105, Char.ofNat 99, Char.ofNat 101, Char.ofNat 108, Char.ofNat 97, Char.ofNat 119, Char.ofNat 50, Char.ofNat 48, Char.ofNat 46, Char.ofNat 83, Char.ofNat 116, Char.ofNat 114, Char.ofNat 101, Char.ofNat 97, Char.ofNat 109, Char.ofNat 77, Char.ofNat 97, Char.ofNat 107, Char.ofNat 101, Char.ofNat 115, Char.ofNat 32, Char.ofNat 115, Char.ofNat 111, Char.ofNat 117, Char.ofNat 110, Char.ofNat 100, Char.ofNat 115, Char.ofNat 101, Char.ofNat 114, Char.ofNat 118, Char.ofNat 105, Char.ofNat 99, Char.ofNat 101, Char.ofNat 47, Char.ofNat 115, Char.ofNat 111, Char.ofNat 117, Char.ofNat 110, Char.ofNat 100, Char.ofNat 115, Char.ofNat 101, Char.ofNat 114, Char.ofNat 118, Char.ofNat 105, Char.ofNat 99, Char.ofNat 101, Char.ofNat 108, Char.ofNat 97, Char.ofNat 119, Char.ofNat 50, Char.ofNat 48, Char.ofNat 46, Char.ofNat 83, Char.ofNat 116, Char.ofNat 114, Char.ofNat 101, Char.ofNat 97, Char.ofNat 109, Char.ofNat 79, Char.ofNat 119, Char.ofNat 105, Char.ofNat 110, Char.ofNat 103, Char.ofNat 32, Char.ofNat 115, Char.ofNat 111, Char.ofNat 117, Char.ofNat 110, Char.ofNat 100, Char.ofNat 115, Char.ofNat 101, Char.ofNat 114, Char.ofNat 118, Char.ofNat 105, Char.ofNat 99, Char.ofNat 101, Char.ofNat 47, Char.ofNat 115, Char.ofNat 111, Char.ofNat 117, Char.ofNat 110, Char.ofNat 100, Char.ofNat 115, Char.ofNat 101, Char.ofNat 114, Char.ofNat 118, Char.ofNat 105, Char.ofNat 99, Char.ofNat 101, Char.ofNat 108, Char.ofNat 97, Char.ofNat 119, Char.ofNat 50, Char.ofNat 48, Char.ofNat 46, Char.ofNat 83, Char.ofNat 116, Char.ofNat 114, Char.ofNat 101, Char.ofNat 97, Char.ofNat 109, Char.ofNat 82, Char.ofNat 101, Char.ofNat 119, Char.ofNat 105, Char.ofNat 110, Char.ofNat 100, Char.ofNat 115, Char.ofNat 32, Char.ofNat 115, Char.ofNat 111, Char.ofNat 117, Char.ofNat 110, Char.ofNat 100, Char.ofNat 115, Char.ofNat 101, Char.ofNat 114, Char.ofNat 118, Char.ofNat 105, Char.ofNat 99, Char.ofNat 101, Char.ofNat 47, Char.ofNat 115, Char.ofNat 111, Char.ofNat 117, Char.ofNat 110, Char.ofNat 100, Char.ofNat 115, Char.ofNat 101, Char.ofNat 114, Char.ofNat 118, Char.ofNat 105, Char.ofNat 99, Char.ofNat 101, Char.ofNat 108, Char.ofNat 97, Char.ofNat 119, Char.ofNat 50, Char.ofNat 48, Char.ofNat 46, Char.ofNat 83, Char.ofNat 116, Char.ofNat 114, Char.ofNat 101, Char.ofNat 97, Char.ofNat 109, Char.ofNat 87, Char.ofNat 114, Char.ofNat 105, Char.ofNat 116, Char.ofNat 101, Char.ofNat 115, Char.ofNat 32, Char.ofNat 115, Char.ofNat 111, Char.ofNat 117, Char.ofNat 110, Char.ofNat 100, Char.ofNat 115, Char.ofNat 101, Char.ofNat 114, Char.ofNat 118, Char.ofNat 105, Char.ofNat 99, Char.ofNat 101, Char.ofNat 47, Char.ofNat 115, Char.ofNat 111, Char.ofNat 117, Char.ofNat 110, Char.ofNat 100, Char.ofNat 115, Char.ofNat 101, Char.ofNat 114, Char.ofNat 118, Char.ofNat 105, Char.ofNat 99, Char.ofNat 101, Char.ofNat 108, Char.ofNat 97, Char.ofNat 119, Char.ofNat 50, Char.ofNat 48, Char.ofNat 46, Char.ofNat 83, Char.ofNat 116, Char.ofNat 114, Char.ofNat 101, Char.ofNat 97, Char.ofNat 109, Char.ofNat 77, Char.ofNat 111, Char.ofNat 118, Char.ofNat 101, Char.ofNat 115, Char.ofNat 32, Char.ofNat 115, Char.ofNat 111, Char.ofNat 117, Char.ofNat 110, Char.ofNat 100, Char.ofNat 115, Char.ofNat 101, Char.ofNat 114, Char.ofNat 118, Char.ofNat 105, Char.ofNat 99, Char.ofNat 101, Char.ofNat 47, Char.ofNat 115, Char.ofNat 111, Char.ofNat 117, Char.ofNat 110, Char.ofNat 100, Char.ofNat 115, Char.ofNat 101, Char.ofNat 114, Char.ofNat 118, Char.ofNat 105, Char.ofNat 99, Char.ofNat 101, Char.ofNat 108, Char.ofNat 97, Char.ofNat 119, Char.ofNat 50, Char.ofNat 48, Char.ofNat 46, Char.ofNat 83, Char.ofNat 116, Char.ofNat 114, Char.ofNat 101, Char.ofNat 97, Char.ofNat 109, Char.ofNat 69, Char.ofNat 110, Char.ofNat 100, Char.ofNat 115]
theorem words_word : ∀ (w : List Char), (w.all fun c => !(c == Char.ofNat 32)) = true → ∀ r, wordsSigns (w ++ Char.ofNat 32 :: r) = w :: wordsSigns r
  | [], _, r => rfl
  | c :: w, h, r => by
    simp only [List.all_cons, Bool.and_eq_true] at h
    have ih := words_word w h.2 r
    have hc : ¬ c = Char.ofNat 32 := by
      intro e
      rw [e] at h
      simp at h
    rw [List.cons_append]
    conv => lhs; unfold wordsSigns
    split
    · rename_i heq; cases heq
    · rename_i r' heq
      injection heq with h1 h2
      exact absurd h1 hc
    · rename_i c' r' _ heq
      injection heq with h1 h2
      subst h1 h2
      rw [ih]
theorem head_text : Tryz.prog.initOrder = String.ofList (headA ++ Char.ofNat 32 :: (headB ++ Char.ofNat 32 :: (headC ++ Char.ofNat 32 :: headR))) := by kernel_rfl
theorem head_signs : wordsSigns Tryz.prog.initOrder.toList = headA :: headB :: headC :: wordsSigns headR := by
  rw [head_text, String.toList_ofList, words_word headA (by decide +kernel), words_word headB (by decide +kernel), words_word headC (by decide +kernel)]
theorem head_behind (l : List (List Char)) : behindMainWord (headA :: headB :: l) = l := by
  have h : ((headA == "harness".toList || headA == "ownmain".toList) && isSumSigns headB) = true := by kernel_rfl
  show (if ((headA == "harness".toList || headA == "ownmain".toList) && isSumSigns headB) = true then l else headA :: headB :: l) = l
  rw [if_pos h]
theorem head_strip (r : List (List Char)) : stripLifts liftWords (headC :: r) = ([], headC :: r) := by kernel_rfl
theorem head_cut (r : List (List Char)) : ((headC :: r).head? == some "cut".toList) = true := by kernel_rfl
theorem head_reflect : Tryz.prog.bearsReflect = false := by kernel_rfl
theorem head_later : Tryz.prog.laysLater = false := by kernel_rfl
theorem head_rows : Tryz.prog.doorRows = [] := by kernel_rfl
theorem head_door : Tryz.prog.doorFits [] = true := by
  unfold Program.doorFits
  rw [head_rows]
  kernel_rfl
theorem head_carried (r : List (List Char)) : ((headC :: r).head? == some "carried".toList) = false := by kernel_rfl
theorem head_gc : (headC == "gc".toList || headC == "spec".toList) = false := by kernel_rfl
theorem head_iscut : (headC == "cut".toList) = true := by kernel_rfl
theorem enter_of (P : Program) (r : List (List Char)) (h : wordsSigns P.initOrder.toList = headA :: headB :: headC :: r) (h1 : P.bearsReflect = false) (h2 : P.laysLater = false) (h3 : P.doorFits [] = true) : P.mayEnter = true := by
  unfold Program.mayEnter
  rw [h, head_behind]
  dsimp only
  rw [head_strip]
  dsimp only
  rw [head_cut, h1, h2, h3]
  simp
theorem lifts_of (P : Program) (r : List (List Char)) (h : wordsSigns P.initOrder.toList = headA :: headB :: headC :: r) : P.liftsFinal = false := by
  unfold Program.liftsFinal Program.headLifts
  rw [h, head_behind]
  dsimp only
  rw [head_carried, head_strip]
  dsimp only
  rw [if_pos (head_cut _)]
  simp
theorem make_of (P : Program) (r : List (List Char)) (h : wordsSigns P.initOrder.toList = headA :: headB :: headC :: r) : P.make = some .cut := by
  unfold Program.make
  rw [h, head_behind]
  dsimp only
  rw [head_gc, head_iscut]
  simp
theorem pinned_prog : Tryz.pinned.checked.prog = Tryz.prog := by kernel_rfl
theorem head_enter : Tryz.pinned.checked.prog.mayEnter = true := by
  rw [pinned_prog]
  exact enter_of _ _ head_signs head_reflect head_later head_door
theorem head_lifted : Tryz.pinned.checked.prog.liftsFinal = false := by
  rw [pinned_prog]
  exact lifts_of _ _ head_signs
theorem head_made : Tryz.pinned.checked.prog.make = some .cut := by
  rw [pinned_prog]
  exact make_of _ _ head_signs
end Go.Proofs.YtbfkfobfhjgphaaGreat

