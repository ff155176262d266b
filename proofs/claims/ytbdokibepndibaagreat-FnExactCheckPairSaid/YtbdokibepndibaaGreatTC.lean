/- The functions that the laws reach, as the interpreter has them; the table is what the program is. -/
import Derived.Test.YtbdokibepndibaaGreatEng29
import Derived.Test.YtbdokibepndibaaGreatProg
namespace Go.Proofs.YtbdokibepndibaaGreat.Eng.C
open Go.RowKit Go.Proofs
/-- All numbers below n but those of a list. -/
def but (n : Nat) (l : List Nat) : List Nat := (List.range n).filter fun t => !l.contains t
@[simp] def mv (d s : Nat) : AOp := ⟨some d, none, .mv (.s s)⟩
@[simp] def mvo (d k s : Nat) : AOp := ⟨some d, (some (k, false)), .mv (.s s)⟩
@[simp] def mvu (d k s : Nat) : AOp := ⟨some d, (some (k, true)), .mv (.s s)⟩
@[simp] def mf (d : Nat) : AOp := ⟨some d, none, .mv (.c (.bool false))⟩
@[simp] def mt (d : Nat) : AOp := ⟨some d, none, .mv (.c (.bool true))⟩
@[simp] def ml (d : Nat) : AOp := ⟨some d, none, .mv (.c (.nil))⟩
@[simp] def mi (d : Nat) (z : Int) : AOp := ⟨some d, none, .mv (.c (.int .i64 z))⟩
@[simp] def ld (d n s : Nat) : AOp := ⟨some d, none, .ld n false (.s s)⟩
@[simp] def ldo (d k n s : Nat) : AOp := ⟨some d, (some (k, false)), .ld n false (.s s)⟩
@[simp] def ldu (d k n s : Nat) : AOp := ⟨some d, (some (k, true)), .ld n false (.s s)⟩
@[simp] def lt (d n s : Nat) : AOp := ⟨some d, none, .ld n true (.s s)⟩
@[simp] def fa (d n s : Nat) : AOp := ⟨some d, none, .fa n (.s s)⟩
@[simp] def fao (d k n s : Nat) : AOp := ⟨some d, (some (k, false)), .fa n (.s s)⟩
@[simp] def fau (d k n s : Nat) : AOp := ⟨some d, (some (k, true)), .fa n (.s s)⟩
@[simp] def ia (d n s t : Nat) : AOp := ⟨some d, none, .ia n (.s s) (.s t)⟩
@[simp] def iau (d k n s t : Nat) : AOp := ⟨some d, (some (k, true)), .ia n (.s s) (.s t)⟩
@[simp] def adc (d s : Nat) (z : Int) : AOp := ⟨some d, none, .bin .add (.s s) (.c (.int .i64 z))⟩
@[simp] def ads (d s t : Nat) : AOp := ⟨some d, none, .bin .add (.s s) (.s t)⟩
@[simp] def lsc (d s : Nat) (z : Int) : AOp := ⟨some d, none, .bin .lss (.s s) (.c (.int .i64 z))⟩
@[simp] def lss (d s t : Nat) : AOp := ⟨some d, none, .bin .lss (.s s) (.s t)⟩
@[simp] def nes (d s t : Nat) : AOp := ⟨some d, none, .bin .neq (.s s) (.s t)⟩
@[simp] def pkt (d s t : Nat) : AOp := ⟨some d, none, .pick (.s s) (.c (.bool true)) (.s t)⟩
@[simp] def pkf (d s t : Nat) : AOp := ⟨some d, none, .pick (.s s) (.s t) (.c (.bool false))⟩
@[simp] def pko (d k s t : Nat) : AOp := ⟨some d, (some (k, false)), .pick (.s s) (.s t) (.c (.bool false))⟩
@[simp] def sto (n s t : Nat) : AOp := ⟨none, none, .sto n (.s s) (.s t)⟩
@[simp] def len (d s : Nat) : AOp := ⟨some d, none, .len (.s s)⟩
@[simp] def nt (d s : Nat) : AOp := ⟨some d, none, .un .not (.s s)⟩
@[simp] def nto (d k s : Nat) : AOp := ⟨some d, (some (k, false)), .un .not (.s s)⟩
@[simp] def gtc (d k s : Nat) (z : Int) : AOp := ⟨some d, (some (k, false)), .bin .gtr (.s s) (.c (.int .i64 z))⟩
@[simp] def ex (d s n : Nat) : AOp := ⟨some d, none, .ext (.s s) n⟩
@[simp] def ap (d n q s t : Nat) : AOp := ⟨some d, none, .app n q (.s s) (.s t)⟩
@[simp] def bx (d n s : Nat) : AOp := ⟨some d, none, .box n (.s s)⟩
@[simp] def ca (d f s n : Nat) : AOp := ⟨some d, none, .call f [((.s s), [n])]⟩
@[simp] def cd (d f s n t q : Nat) : AOp := ⟨some d, none, .call f [((.s s), [n]), ((.s t), [q])]⟩
/-- loop.example/g00399/laws.szIntS -/
def a16 : AFun := ⟨12, [.tmp 4], (.seq (.region false 0 [mi 4 0]) (.seq (.region false 0 [mv 5 1, mv 6 0, len 7 6, ⟨some 8, none, .bin .sub (.s 5) (.s 7)⟩, mv 1 8]) (.seq (.seq (.region false 0 [mv 9 1, lsc 10 9 0]) (.cond (.s 10) (.seq (.region false 0 [mi 4 (-1)]) (.ret false [])) .skip)) (.seq (.region false 0 [mv 11 1, mv 4 11]) (.ret false [])))))⟩
def b61_0 : ACode := (.seq (.seq (.region false 0 [mv 12 5, mv 13 0, len 14 13, lss 15 12 14]) (.cond (.s 15) .skip (.exit 0 true [0, 2, 3, 4, 5, 6, 7, 8, 9, 10, 11, 12, 13, 14, 15, 16, 17, 18, 19, 20, 21, 22, 23, 24, 25, 26]))) (.seq (.block 1 (.seq (.region false 0 [mv 18 0, mv 19 5, ia 20 1 18 19, ld 21 1 20, mv 22 1, cd 23 16 21 1 22 1, mv 1 23]) (.seq (.region false 0 [mv 24 1, lsc 25 24 0]) (.cond (.s 25) (.seq (.region false 0 [mi 4 (-1)]) (.ret true [0, 1, 2, 3, 5, 6, 7, 8, 9, 10, 11, 12, 13, 14, 15, 16, 17, 18, 19, 20, 21, 22, 23, 24, 25, 26])) .skip)))) (.region false 0 [mv 16 5, adc 17 16 1, mv 5 17])))
def d61_0 : List Nat := [2, 3, 4, 6, 7, 8, 9, 10, 11, 12, 13, 14, 15, 16, 17, 18, 19, 20, 21, 22, 23, 24, 25, 26]
def l61_0 : ACode := .loop true d61_0 b61_0
/-- loop.example/g00399/laws.szIntSS -/
def a61 : AFun := ⟨27, [.tmp 4], (.seq (.region false 0 [mi 4 0]) (.seq (.region false 0 [mv 6 1, mv 7 0, len 8 7, ⟨some 9, none, .bin .sub (.s 6) (.s 8)⟩, mv 1 9]) (.seq (.seq (.region false 0 [mv 10 1, lsc 11 10 0]) (.cond (.s 11) (.seq (.region false 0 [mi 4 (-1)]) (.ret false [])) .skip)) (.seq (.seq (.region false 0 [mi 5 0]) (.block 0 l61_0)) (.seq (.region false 0 [mv 26 1, mv 4 26]) (.ret false []))))))⟩
/-- loop.example/g00399/laws.szMeta -/
def a58 : AFun := ⟨18, [.tmp 4], (.seq (.region false 0 [bx 2 6 0, mi 4 0]) (.seq (.region false 0 [fa 5 0 2, ld 6 1 5, mv 7 1, cd 8 16 6 1 7 1, mv 1 8]) (.seq (.seq (.region false 0 [mv 9 1, lsc 10 9 0]) (.cond (.s 10) (.seq (.region false 0 [mi 4 (-1)]) (.ret false [])) .skip)) (.seq (.region false 0 [fa 11 1 2, ld 12 1 11, mv 13 1, cd 14 61 12 1 13 1, mv 1 14]) (.seq (.seq (.region false 0 [mv 15 1, lsc 16 15 0]) (.cond (.s 16) (.seq (.region false 0 [mi 4 (-1)]) (.ret false [])) .skip)) (.seq (.region false 0 [mv 17 1, mv 4 17]) (.ret false [])))))))⟩
/-- loop.example/g00399/laws.szByteS -/
def a62 : AFun := ⟨12, [.tmp 4], (.seq (.region false 0 [mi 4 0]) (.seq (.region false 0 [mv 5 1, mv 6 0, len 7 6, ⟨some 8, none, .bin .sub (.s 5) (.s 7)⟩, mv 1 8]) (.seq (.seq (.region false 0 [mv 9 1, lsc 10 9 0]) (.cond (.s 10) (.seq (.region false 0 [mi 4 (-1)]) (.ret false [])) .skip)) (.seq (.region false 0 [mv 11 1, mv 4 11]) (.ret false [])))))⟩
/-- loop.example/g00399/laws.szSlots -/
def a59 : AFun := ⟨18, [.tmp 4], (.seq (.region false 0 [bx 2 2 0, mi 4 0]) (.seq (.region false 0 [fa 5 0 2, ld 6 1 5, mv 7 1, cd 8 62 6 1 7 1, mv 1 8]) (.seq (.seq (.region false 0 [mv 9 1, lsc 10 9 0]) (.cond (.s 10) (.seq (.region false 0 [mi 4 (-1)]) (.ret false [])) .skip)) (.seq (.region false 0 [fa 11 1 2, ld 12 1 11, mv 13 1, cd 14 62 12 1 13 1, mv 1 14]) (.seq (.seq (.region false 0 [mv 15 1, lsc 16 15 0]) (.cond (.s 16) (.seq (.region false 0 [mi 4 (-1)]) (.ret false [])) .skip)) (.seq (.region false 0 [mv 17 1, mv 4 17]) (.ret false [])))))))⟩
/-- loop.example/g00399/laws.szBoolS -/
def a60 : AFun := ⟨12, [.tmp 4], (.seq (.region false 0 [mi 4 0]) (.seq (.region false 0 [mv 5 1, mv 6 0, len 7 6, ⟨some 8, none, .bin .sub (.s 5) (.s 7)⟩, mv 1 8]) (.seq (.seq (.region false 0 [mv 9 1, lsc 10 9 0]) (.cond (.s 10) (.seq (.region false 0 [mi 4 (-1)]) (.ret false [])) .skip)) (.seq (.region false 0 [mv 11 1, mv 4 11]) (.ret false [])))))⟩
/-- loop.example/g00399/laws.szNode -/
def a35 : AFun := ⟨48, [.tmp 4], (.seq (.region false 0 [bx 2 16 0, mi 4 0]) (.seq (.region false 0 [fa 5 3 2, ld 6 1 5, mv 7 1, cd 8 16 6 1 7 1, mv 1 8]) (.seq (.seq (.region false 0 [mv 9 1, lsc 10 9 0]) (.cond (.s 10) (.seq (.region false 0 [mi 4 (-1)]) (.ret false [])) .skip)) (.seq (.region false 0 [fa 11 4 2, lt 12 6 11, mv 13 1, ⟨some 14, none, .call 58 [((.s 12), [1, 1, 1, 1, 1, 1]), ((.s 13), [1])]⟩, mv 1 14]) (.seq (.seq (.region false 0 [mv 15 1, lsc 16 15 0]) (.cond (.s 16) (.seq (.region false 0 [mi 4 (-1)]) (.ret false [])) .skip)) (.seq (.region false 0 [fa 17 10 2, lt 18 2 17, mv 19 1, ⟨some 20, none, .call 59 [((.s 18), [1, 1]), ((.s 19), [1])]⟩, mv 1 20]) (.seq (.seq (.region false 0 [mv 21 1, lsc 22 21 0]) (.cond (.s 22) (.seq (.region false 0 [mi 4 (-1)]) (.ret false [])) .skip)) (.seq (.region false 0 [fa 23 12 2, ld 24 1 23, mv 25 1, cd 26 60 24 1 25 1, mv 1 26]) (.seq (.seq (.region false 0 [mv 27 1, lsc 28 27 0]) (.cond (.s 28) (.seq (.region false 0 [mi 4 (-1)]) (.ret false [])) .skip)) (.seq (.region false 0 [fa 29 13 2, ld 30 1 29, mv 31 1, cd 32 61 30 1 31 1, mv 1 32]) (.seq (.seq (.region false 0 [mv 33 1, lsc 34 33 0]) (.cond (.s 34) (.seq (.region false 0 [mi 4 (-1)]) (.ret false [])) .skip)) (.seq (.region false 0 [fa 35 14 2, ld 36 1 35, mv 37 1, cd 38 60 36 1 37 1, mv 1 38]) (.seq (.seq (.region false 0 [mv 39 1, lsc 40 39 0]) (.cond (.s 40) (.seq (.region false 0 [mi 4 (-1)]) (.ret false [])) .skip)) (.seq (.region false 0 [fa 41 15 2, ld 42 1 41, mv 43 1, cd 44 16 42 1 43 1, mv 1 44]) (.seq (.seq (.region false 0 [mv 45 1, lsc 46 45 0]) (.cond (.s 46) (.seq (.region false 0 [mi 4 (-1)]) (.ret false [])) .skip)) (.seq (.region false 0 [mv 47 1, mv 4 47]) (.ret false [])))))))))))))))))⟩
def b13_0 : ACode := (.seq (.seq (.region false 0 [mv 12 5, mv 13 0, len 14 13, lss 15 12 14]) (.cond (.s 15) .skip (.exit 0 true [0, 2, 3, 4, 5, 6, 7, 8, 9, 10, 11, 12, 13, 14, 15, 16, 17, 18, 19, 20, 21, 22, 23, 24, 25, 26]))) (.seq (.block 1 (.seq (.region false 0 [mv 18 0, mv 19 5, ia 20 16 18 19, lt 21 16 20, mv 22 1, ⟨some 23, none, .call 35 [((.s 21), [1, 1, 1, 1, 1, 1, 1, 1, 1, 1, 1, 1, 1, 1, 1, 1]), ((.s 22), [1])]⟩, mv 1 23]) (.seq (.region false 0 [mv 24 1, lsc 25 24 0]) (.cond (.s 25) (.seq (.region false 0 [mi 4 (-1)]) (.ret true [0, 1, 2, 3, 5, 6, 7, 8, 9, 10, 11, 12, 13, 14, 15, 16, 17, 18, 19, 20, 21, 22, 23, 24, 25, 26])) .skip)))) (.region false 0 [mv 16 5, adc 17 16 1, mv 5 17])))
def d13_0 : List Nat := [2, 3, 4, 6, 7, 8, 9, 10, 11, 12, 13, 14, 15, 16, 17, 18, 19, 20, 21, 22, 23, 24, 25, 26]
def l13_0 : ACode := .loop true d13_0 b13_0
/-- loop.example/g00399/laws.szNodeS -/
def a13 : AFun := ⟨27, [.tmp 4], (.seq (.region false 0 [mi 4 0]) (.seq (.region false 0 [mv 6 1, mv 7 0, len 8 7, ⟨some 9, none, .bin .sub (.s 6) (.s 8)⟩, mv 1 9]) (.seq (.seq (.region false 0 [mv 10 1, lsc 11 10 0]) (.cond (.s 11) (.seq (.region false 0 [mi 4 (-1)]) (.ret false [])) .skip)) (.seq (.seq (.region false 0 [mi 5 0]) (.block 0 l13_0)) (.seq (.region false 0 [mv 26 1, mv 4 26]) (.ret false []))))))⟩
/-- loop.example/g00399/laws.szWire -/
def a36 : AFun := ⟨12, [.tmp 4], (.seq (.region false 0 [bx 2 3 0, mi 4 0]) (.seq (.region false 0 [fa 5 2 2, ld 6 1 5, mv 7 1, cd 8 62 6 1 7 1, mv 1 8]) (.seq (.seq (.region false 0 [mv 9 1, lsc 10 9 0]) (.cond (.s 10) (.seq (.region false 0 [mi 4 (-1)]) (.ret false [])) .skip)) (.seq (.region false 0 [mv 11 1, mv 4 11]) (.ret false [])))))⟩
def b14_0 : ACode := (.seq (.seq (.region false 0 [mv 12 5, mv 13 0, len 14 13, lss 15 12 14]) (.cond (.s 15) .skip (.exit 0 true [0, 2, 3, 4, 5, 6, 7, 8, 9, 10, 11, 12, 13, 14, 15, 16, 17, 18, 19, 20, 21, 22, 23, 24, 25, 26]))) (.seq (.block 1 (.seq (.region false 0 [mv 18 0, mv 19 5, ia 20 3 18 19, lt 21 3 20, mv 22 1, ⟨some 23, none, .call 36 [((.s 21), [1, 1, 1]), ((.s 22), [1])]⟩, mv 1 23]) (.seq (.region false 0 [mv 24 1, lsc 25 24 0]) (.cond (.s 25) (.seq (.region false 0 [mi 4 (-1)]) (.ret true [0, 1, 2, 3, 5, 6, 7, 8, 9, 10, 11, 12, 13, 14, 15, 16, 17, 18, 19, 20, 21, 22, 23, 24, 25, 26])) .skip)))) (.region false 0 [mv 16 5, adc 17 16 1, mv 5 17])))
def d14_0 : List Nat := [2, 3, 4, 6, 7, 8, 9, 10, 11, 12, 13, 14, 15, 16, 17, 18, 19, 20, 21, 22, 23, 24, 25, 26]
def l14_0 : ACode := .loop true d14_0 b14_0
/-- loop.example/g00399/laws.szWireS -/
def a14 : AFun := ⟨27, [.tmp 4], (.seq (.region false 0 [mi 4 0]) (.seq (.region false 0 [mv 6 1, mv 7 0, len 8 7, ⟨some 9, none, .bin .sub (.s 6) (.s 8)⟩, mv 1 9]) (.seq (.seq (.region false 0 [mv 10 1, lsc 11 10 0]) (.cond (.s 11) (.seq (.region false 0 [mi 4 (-1)]) (.ret false [])) .skip)) (.seq (.seq (.region false 0 [mi 5 0]) (.block 0 l14_0)) (.seq (.region false 0 [mv 26 1, mv 4 26]) (.ret false []))))))⟩
/-- loop.example/g00399/laws.szRecS -/
def a15 : AFun := ⟨12, [.tmp 4], (.seq (.region false 0 [mi 4 0]) (.seq (.region false 0 [mv 5 1, mv 6 0, len 7 6, ⟨some 8, none, .bin .sub (.s 5) (.s 7)⟩, mv 1 8]) (.seq (.seq (.region false 0 [mv 9 1, lsc 10 9 0]) (.cond (.s 10) (.seq (.region false 0 [mi 4 (-1)]) (.ret false [])) .skip)) (.seq (.region false 0 [mv 11 1, mv 4 11]) (.ret false [])))))⟩
/-- loop.example/g00399/laws.szWorld -/
def a4 : AFun := ⟨30, [.tmp 4], (.seq (.region false 0 [bx 2 5 0, mi 4 0]) (.seq (.region false 0 [fa 5 0 2, ld 6 1 5, mv 7 1, cd 8 13 6 16 7 1, mv 1 8]) (.seq (.seq (.region false 0 [mv 9 1, lsc 10 9 0]) (.cond (.s 10) (.seq (.region false 0 [mi 4 (-1)]) (.ret false [])) .skip)) (.seq (.region false 0 [fa 11 1 2, ld 12 1 11, mv 13 1, cd 14 14 12 3 13 1, mv 1 14]) (.seq (.seq (.region false 0 [mv 15 1, lsc 16 15 0]) (.cond (.s 16) (.seq (.region false 0 [mi 4 (-1)]) (.ret false [])) .skip)) (.seq (.region false 0 [fa 17 2 2, ld 18 1 17, mv 19 1, cd 20 15 18 2 19 1, mv 1 20]) (.seq (.seq (.region false 0 [mv 21 1, lsc 22 21 0]) (.cond (.s 22) (.seq (.region false 0 [mi 4 (-1)]) (.ret false [])) .skip)) (.seq (.region false 0 [fa 23 3 2, ld 24 1 23, mv 25 1, cd 26 16 24 1 25 1, mv 1 26]) (.seq (.seq (.region false 0 [mv 27 1, lsc 28 27 0]) (.cond (.s 28) (.seq (.region false 0 [mi 4 (-1)]) (.ret false [])) .skip)) (.seq (.region false 0 [mv 29 1, mv 4 29]) (.ret false [])))))))))))⟩
def b24_0 : ACode := (.seq (.seq (.region false 0 [mv 8 4, mv 9 0, len 10 9, lss 11 8 10]) (.cond (.s 11) .skip (.exit 0 true [0, 1, 2, 4, 5, 6, 7, 8, 9, 10, 11, 12, 13, 14, 15, 16, 17, 18, 19, 20, 21]))) (.seq (.block 1 (.region false 0 [mv 14 3, mv 15 4, mv 16 0, mv 17 4, ia 18 1 16 17, ld 19 1 18, ia 20 1 14 15, sto 1 20 19])) (.region false 0 [mv 12 4, adc 13 12 1, mv 4 13])))
def d24_0 : List Nat := [1, 2, 5, 6, 7, 8, 9, 10, 11, 12, 13, 14, 15, 16, 17, 18, 19, 20, 21]
def l24_0 : ACode := .loop true d24_0 b24_0
/-- loop.example/g00399/laws.toIntS -/
def a24 : AFun := ⟨22, [.tmp 2], (.seq (.region false 0 [ml 2]) (.seq (.region false 0 [mv 5 0, len 6 5, ⟨some 7, none, .mks 1 8 [.int .i64 0] (.s 6)⟩, mv 3 7]) (.seq (.seq (.region false 0 [mi 4 0]) (.block 0 l24_0)) (.seq (.region false 0 [mv 21 3, mv 2 21]) (.ret false [])))))⟩
def b72_0 : ACode := (.seq (.seq (.region false 0 [mv 8 4, mv 9 0, len 10 9, lss 11 8 10]) (.cond (.s 11) .skip (.exit 0 true [0, 1, 2, 4, 5, 6, 7, 8, 9, 10, 11, 12, 13, 14, 15, 16, 17, 18, 19, 20, 21, 22]))) (.seq (.block 1 (.region false 0 [mv 14 3, mv 15 4, mv 16 0, mv 17 4, ia 18 1 16 17, ld 19 1 18, ca 20 24 19 1, ia 21 1 14 15, sto 1 21 20])) (.region false 0 [mv 12 4, adc 13 12 1, mv 4 13])))
def d72_0 : List Nat := [1, 2, 5, 6, 7, 8, 9, 10, 11, 12, 13, 14, 15, 16, 17, 18, 19, 20, 21, 22]
def l72_0 : ACode := .loop true d72_0 b72_0
/-- loop.example/g00399/laws.toIntSS -/
def a72 : AFun := ⟨23, [.tmp 2], (.seq (.region false 0 [ml 2]) (.seq (.region false 0 [mv 5 0, len 6 5, ⟨some 7, none, .mks 1 24 [.nil] (.s 6)⟩, mv 3 7]) (.seq (.seq (.region false 0 [mi 4 0]) (.block 0 l72_0)) (.seq (.region false 0 [mv 22 3, mv 2 22]) (.ret false [])))))⟩
/-- loop.example/g00399/laws.toMeta -/
def a69 : AFun := ⟨25, [.cell 2 6 true], (.seq (.region false 0 [bx 1 6 0, ⟨some 2, none, .alc [.nil, .nil, .bool false, .bool false, .bool false, .int .i64 0]⟩]) (.seq (.region false 0 [⟨some 3, none, .alc [.nil, .nil, .bool false, .bool false, .bool false, .int .i64 0]⟩]) (.seq (.region false 0 [fa 4 0 1, ld 5 1 4, ca 6 24 5 1, fa 7 0 3, sto 1 7 6]) (.seq (.region false 0 [fa 8 1 1, ld 9 1 8, ca 10 72 9 1, fa 11 1 3, sto 1 11 10]) (.seq (.region false 0 [fa 12 2 1, ld 13 1 12, fa 14 2 3, sto 1 14 13]) (.seq (.region false 0 [fa 15 3 1, ld 16 1 15, fa 17 3 3, sto 1 17 16]) (.seq (.region false 0 [fa 18 4 1, ld 19 1 18, fa 20 4 3, sto 1 20 19]) (.seq (.region false 0 [fa 21 5 1, ld 22 1 21, fa 23 5 3, sto 1 23 22]) (.seq (.region false 0 [lt 24 6 3, sto 6 2 24]) (.ret false []))))))))))⟩
def b73_0 : ACode := (.seq (.seq (.region false 0 [mv 8 4, mv 9 0, len 10 9, lss 11 8 10]) (.cond (.s 11) .skip (.exit 0 true [0, 1, 2, 4, 5, 6, 7, 8, 9, 10, 11, 12, 13, 14, 15, 16, 17, 18, 19, 20, 21]))) (.seq (.block 1 (.region false 0 [mv 14 3, mv 15 4, mv 16 0, mv 17 4, ia 18 1 16 17, ld 19 1 18, ia 20 1 14 15, sto 1 20 19])) (.region false 0 [mv 12 4, adc 13 12 1, mv 4 13])))
def d73_0 : List Nat := [1, 2, 5, 6, 7, 8, 9, 10, 11, 12, 13, 14, 15, 16, 17, 18, 19, 20, 21]
def l73_0 : ACode := .loop true d73_0 b73_0
/-- loop.example/g00399/laws.toByteS -/
def a73 : AFun := ⟨22, [.tmp 2], (.seq (.region false 0 [ml 2]) (.seq (.region false 0 [mv 5 0, len 6 5, ⟨some 7, none, .mks 1 1 [.int .u8 0] (.s 6)⟩, mv 3 7]) (.seq (.seq (.region false 0 [mi 4 0]) (.block 0 l73_0)) (.seq (.region false 0 [mv 21 3, mv 2 21]) (.ret false [])))))⟩
/-- loop.example/g00399/laws.toSlots -/
def a70 : AFun := ⟨13, [.cell 2 2 true], (.seq (.region false 0 [bx 1 2 0, ⟨some 2, none, .alc [.nil, .nil]⟩]) (.seq (.region false 0 [⟨some 3, none, .alc [.nil, .nil]⟩]) (.seq (.region false 0 [fa 4 0 1, ld 5 1 4, ca 6 73 5 1, fa 7 0 3, sto 1 7 6]) (.seq (.region false 0 [fa 8 1 1, ld 9 1 8, ca 10 73 9 1, fa 11 1 3, sto 1 11 10]) (.seq (.region false 0 [lt 12 2 3, sto 2 2 12]) (.ret false []))))))⟩
def b71_0 : ACode := (.seq (.seq (.region false 0 [mv 8 4, mv 9 0, len 10 9, lss 11 8 10]) (.cond (.s 11) .skip (.exit 0 true [0, 1, 2, 4, 5, 6, 7, 8, 9, 10, 11, 12, 13, 14, 15, 16, 17, 18, 19, 20, 21]))) (.seq (.block 1 (.region false 0 [mv 14 3, mv 15 4, mv 16 0, mv 17 4, ia 18 1 16 17, ld 19 1 18, ia 20 1 14 15, sto 1 20 19])) (.region false 0 [mv 12 4, adc 13 12 1, mv 4 13])))
def d71_0 : List Nat := [1, 2, 5, 6, 7, 8, 9, 10, 11, 12, 13, 14, 15, 16, 17, 18, 19, 20, 21]
def l71_0 : ACode := .loop true d71_0 b71_0
/-- loop.example/g00399/laws.toBoolS -/
def a71 : AFun := ⟨22, [.tmp 2], (.seq (.region false 0 [ml 2]) (.seq (.region false 0 [mv 5 0, len 6 5, ⟨some 7, none, .mks 1 1 [.bool false] (.s 6)⟩, mv 3 7]) (.seq (.seq (.region false 0 [mi 4 0]) (.block 0 l71_0)) (.seq (.region false 0 [mv 21 3, mv 2 21]) (.ret false [])))))⟩
/-- loop.example/g00399/laws.toNode -/
def a42 : AFun := ⟨42, [.cell 2 16 true], (.seq (.region false 0 [bx 1 16 0, ⟨some 2, none, .alc [.int .i64 0, .bool false, .bool false, .nil, .nil, .nil, .bool false, .bool false, .bool false, .int .i64 0, .nil, .nil, .nil, .nil, .nil, .nil]⟩]) (.seq (.region false 0 [⟨some 3, none, .alc [.int .i64 0, .bool false, .bool false, .nil, .nil, .nil, .bool false, .bool false, .bool false, .int .i64 0, .nil, .nil, .nil, .nil, .nil, .nil]⟩]) (.seq (.region false 0 [fa 4 0 1, ld 5 1 4, fa 6 0 3, sto 1 6 5]) (.seq (.region false 0 [fa 7 1 1, ld 8 1 7, fa 9 1 3, sto 1 9 8]) (.seq (.region false 0 [fa 10 2 1, ld 11 1 10, fa 12 2 3, sto 1 12 11]) (.seq (.region false 0 [fa 13 3 1, ld 14 1 13, ca 15 24 14 1, fa 16 3 3, sto 1 16 15]) (.seq (.region false 0 [fa 17 4 1, lt 18 6 17, ⟨some 19, none, .call 69 [((.s 18), [1, 1, 1, 1, 1, 1])]⟩, fa 20 4 3, sto 6 20 19]) (.seq (.region false 0 [fa 21 10 1, lt 22 2 21, ⟨some 23, none, .call 70 [((.s 22), [1, 1])]⟩, fa 24 10 3, sto 2 24 23]) (.seq (.region false 0 [fa 25 12 1, ld 26 1 25, ca 27 71 26 1, fa 28 12 3, sto 1 28 27]) (.seq (.region false 0 [fa 29 13 1, ld 30 1 29, ca 31 72 30 1, fa 32 13 3, sto 1 32 31]) (.seq (.region false 0 [fa 33 14 1, ld 34 1 33, ca 35 71 34 1, fa 36 14 3, sto 1 36 35]) (.seq (.region false 0 [fa 37 15 1, ld 38 1 37, ca 39 24 38 1, fa 40 15 3, sto 1 40 39]) (.seq (.region false 0 [lt 41 16 3, sto 16 2 41]) (.ret false []))))))))))))))⟩
def b21_0 : ACode := (.seq (.seq (.region false 0 [mv 8 4, mv 9 0, len 10 9, lss 11 8 10]) (.cond (.s 11) .skip (.exit 0 true [0, 1, 2, 4, 5, 6, 7, 8, 9, 10, 11, 12, 13, 14, 15, 16, 17, 18, 19, 20, 21, 22]))) (.seq (.block 1 (.region false 0 [mv 14 3, mv 15 4, mv 16 0, mv 17 4, ia 18 16 16 17, lt 19 16 18, ⟨some 20, none, .call 42 [((.s 19), [1, 1, 1, 1, 1, 1, 1, 1, 1, 1, 1, 1, 1, 1, 1, 1])]⟩, ia 21 16 14 15, sto 16 21 20])) (.region false 0 [mv 12 4, adc 13 12 1, mv 4 13])))
def d21_0 : List Nat := [1, 2, 5, 6, 7, 8, 9, 10, 11, 12, 13, 14, 15, 16, 17, 18, 19, 20, 21, 22]
def l21_0 : ACode := .loop true d21_0 b21_0
/-- loop.example/g00399/laws.toNodeS -/
def a21 : AFun := ⟨23, [.tmp 2], (.seq (.region false 0 [ml 2]) (.seq (.region false 0 [mv 5 0, len 6 5, ⟨some 7, none, .mks 16 248 [.int .i64 0, .bool false, .bool false, .nil, .nil, .nil, .bool false, .bool false, .bool false, .int .i64 0, .nil, .nil, .nil, .nil, .nil, .nil] (.s 6)⟩, mv 3 7]) (.seq (.seq (.region false 0 [mi 4 0]) (.block 0 l21_0)) (.seq (.region false 0 [mv 22 3, mv 2 22]) (.ret false [])))))⟩
/-- loop.example/g00399/laws.toWire -/
def a43 : AFun := ⟨15, [.cell 2 3 true], (.seq (.region false 0 [bx 1 3 0, ⟨some 2, none, .alc [.int .i64 0, .int .i64 0, .nil]⟩]) (.seq (.region false 0 [⟨some 3, none, .alc [.int .i64 0, .int .i64 0, .nil]⟩]) (.seq (.region false 0 [fa 4 0 1, ld 5 1 4, fa 6 0 3, sto 1 6 5]) (.seq (.region false 0 [fa 7 1 1, ld 8 1 7, fa 9 1 3, sto 1 9 8]) (.seq (.region false 0 [fa 10 2 1, ld 11 1 10, ca 12 73 11 1, fa 13 2 3, sto 1 13 12]) (.seq (.region false 0 [lt 14 3 3, sto 3 2 14]) (.ret false [])))))))⟩
def b22_0 : ACode := (.seq (.seq (.region false 0 [mv 8 4, mv 9 0, len 10 9, lss 11 8 10]) (.cond (.s 11) .skip (.exit 0 true [0, 1, 2, 4, 5, 6, 7, 8, 9, 10, 11, 12, 13, 14, 15, 16, 17, 18, 19, 20, 21, 22]))) (.seq (.block 1 (.region false 0 [mv 14 3, mv 15 4, mv 16 0, mv 17 4, ia 18 3 16 17, lt 19 3 18, ⟨some 20, none, .call 43 [((.s 19), [1, 1, 1])]⟩, ia 21 3 14 15, sto 3 21 20])) (.region false 0 [mv 12 4, adc 13 12 1, mv 4 13])))
def d22_0 : List Nat := [1, 2, 5, 6, 7, 8, 9, 10, 11, 12, 13, 14, 15, 16, 17, 18, 19, 20, 21, 22]
def l22_0 : ACode := .loop true d22_0 b22_0
/-- loop.example/g00399/laws.toWireS -/
def a22 : AFun := ⟨23, [.tmp 2], (.seq (.region false 0 [ml 2]) (.seq (.region false 0 [mv 5 0, len 6 5, ⟨some 7, none, .mks 3 40 [.int .i64 0, .int .i64 0, .nil] (.s 6)⟩, mv 3 7]) (.seq (.seq (.region false 0 [mi 4 0]) (.block 0 l22_0)) (.seq (.region false 0 [mv 22 3, mv 2 22]) (.ret false [])))))⟩
/-- loop.example/g00399/laws.toRec -/
def a44 : AFun := ⟨11, [.cell 2 2 true], (.seq (.region false 0 [bx 1 2 0, ⟨some 2, none, .alc [.int .i64 0, .int .i64 0]⟩]) (.seq (.region false 0 [⟨some 3, none, .alc [.int .i64 0, .int .i64 0]⟩]) (.seq (.region false 0 [fa 4 0 1, ld 5 1 4, fa 6 0 3, sto 1 6 5]) (.seq (.region false 0 [fa 7 1 1, ld 8 1 7, fa 9 1 3, sto 1 9 8]) (.seq (.region false 0 [lt 10 2 3, sto 2 2 10]) (.ret false []))))))⟩
def b23_0 : ACode := (.seq (.seq (.region false 0 [mv 8 4, mv 9 0, len 10 9, lss 11 8 10]) (.cond (.s 11) .skip (.exit 0 true [0, 1, 2, 4, 5, 6, 7, 8, 9, 10, 11, 12, 13, 14, 15, 16, 17, 18, 19, 20, 21, 22]))) (.seq (.block 1 (.region false 0 [mv 14 3, mv 15 4, mv 16 0, mv 17 4, ia 18 2 16 17, lt 19 2 18, ⟨some 20, none, .call 44 [((.s 19), [1, 1])]⟩, ia 21 2 14 15, sto 2 21 20])) (.region false 0 [mv 12 4, adc 13 12 1, mv 4 13])))
def d23_0 : List Nat := [1, 2, 5, 6, 7, 8, 9, 10, 11, 12, 13, 14, 15, 16, 17, 18, 19, 20, 21, 22]
def l23_0 : ACode := .loop true d23_0 b23_0
/-- loop.example/g00399/laws.toRecS -/
def a23 : AFun := ⟨23, [.tmp 2], (.seq (.region false 0 [ml 2]) (.seq (.region false 0 [mv 5 0, len 6 5, ⟨some 7, none, .mks 2 16 [.int .i64 0, .int .i64 0] (.s 6)⟩, mv 3 7]) (.seq (.seq (.region false 0 [mi 4 0]) (.block 0 l23_0)) (.seq (.region false 0 [mv 22 3, mv 2 22]) (.ret false [])))))⟩
/-- loop.example/g00399/laws.toWorld -/
def a6 : AFun := ⟨24, [.cell 2 5 true], (.seq (.region false 0 [bx 1 5 0, ⟨some 2, none, .alc [.nil, .nil, .nil, .nil, .int .i64 0]⟩]) (.seq (.region false 0 [⟨some 3, none, .alc [.nil, .nil, .nil, .nil, .int .i64 0]⟩]) (.seq (.region false 0 [fa 4 0 1, ld 5 1 4, ca 6 21 5 16, fa 7 0 3, sto 1 7 6]) (.seq (.region false 0 [fa 8 1 1, ld 9 1 8, ca 10 22 9 3, fa 11 1 3, sto 1 11 10]) (.seq (.region false 0 [fa 12 2 1, ld 13 1 12, ca 14 23 13 2, fa 15 2 3, sto 1 15 14]) (.seq (.region false 0 [fa 16 3 1, ld 17 1 16, ca 18 24 17 1, fa 19 3 3, sto 1 19 18]) (.seq (.region false 0 [fa 20 4 1, ld 21 1 20, fa 22 4 3, sto 1 22 21]) (.seq (.region false 0 [lt 23 5 3, sto 5 2 23]) (.ret false [])))))))))⟩
/-- loop.example/g00399/spec.l1In -/
def a18 : AFun := ⟨15, [.tmp 6], (.seq (.region false 0 [mf 6]) (.seq (.region false 0 [mv 7 0, mv 8 1, ⟨some 9, none, .bin .geq (.s 7) (.s 8)⟩, mv 10 9, mvu 11 10 0, mvu 12 10 2, ⟨some 13, (some (10, true)), .bin .leq (.s 11) (.s 12)⟩, pkf 14 10 13, mv 6 14]) (.ret false [])))⟩
def b39_0 : ACode := (.seq (.seq (.region false 0 [mv 4 3, mv 5 0, len 6 5, lss 7 4 6]) (.cond (.s 7) .skip (.exit 0 true [1, 2, 3, 4, 5, 6, 7, 8, 9, 10, 11, 12, 13, 14, 15, 16, 17, 18]))) (.seq (.block 1 (.seq (.region false 0 [mv 10 0, mv 11 3, ia 12 1 10 11, ld 13 1 12, ⟨some 14, none, .call 18 [((.s 13), [1]), ((.c (.int .i64 0)), [1]), ((.c (.int .i64 200)), [1])]⟩, nt 15 14]) (.cond (.s 15) (.seq (.region false 0 [mf 2]) (.ret true [0, 1, 3, 4, 5, 6, 7, 8, 9, 10, 11, 12, 13, 14, 15, 16, 17, 18])) .skip))) (.region false 0 [mv 8 3, adc 9 8 1, mv 3 9])))
def d39_0 : List Nat := [1, 2, 4, 5, 6, 7, 8, 9, 10, 11, 12, 13, 14, 15, 16, 17, 18]
def l39_0 : ACode := .loop true d39_0 b39_0
/-- loop.example/g00399/spec.ImageOk -/
def a39 : AFun := ⟨19, [.tmp 2], (.seq (.region false 0 [mf 2]) (.seq (.seq (.region false 0 [mi 3 0]) (.block 0 l39_0)) (.seq (.region false 0 [mv 16 0, len 17 16, ⟨some 18, none, .bin .eql (.s 17) (.c (.int .i64 8))⟩, mv 2 18]) (.ret false []))))⟩
def b86_0 : ACode := (.seq (.seq (.region false 0 [mv 4 3, mv 5 0, len 6 5, lss 7 4 6]) (.cond (.s 7) .skip (.exit 0 true [0, 1, 2, 3, 4, 5, 6, 7, 8, 9, 10, 11, 12, 13, 14, 15, 16, 17, 18, 19, 20, 21, 22, 23, 24, 25, 26, 27, 28, 29, 30, 31]))) (.seq (.block 1 (.seq (.region true 22 [mv 10 0, mv 11 3, ia 12 1 10 11, ld 13 1 12, ⟨some 14, none, .call 18 [((.s 13), [1]), ((.c (.int .i64 0)), [1]), ((.c (.int .i64 7)), [1])]⟩, nt 15 14, mv 16 15, mvo 17 16 3, gtc 18 16 17 0, mvo 19 16 18, mvu 20 19 0, mvu 21 19 3, ⟨some 22, (some (19, true)), .bin .sub (.s 21) (.c (.int .i64 1))⟩, iau 23 19 1 20 22, ldu 24 19 1 23, mvu 25 19 0, mvu 26 19 3, iau 27 19 1 25 26, ldu 28 19 1 27, ⟨some 29, (some (19, true)), .bin .geq (.s 24) (.s 28)⟩, pko 30 16 19 29, pkt 31 16 30]) (.cond (.s 31) (.seq (.region false 0 [mf 2]) (.ret true [0, 1, 3, 4, 5, 6, 7, 8, 9, 10, 11, 12, 13, 14, 15, 16, 17, 18, 19, 20, 21, 22, 23, 24, 25, 26, 27, 28, 29, 30, 31])) .skip))) (.region false 0 [mv 8 3, adc 9 8 1, mv 3 9])))
def d86_0 : List Nat := [1, 2, 4, 5, 6, 7, 8, 9, 10, 11, 12, 13, 14, 15, 16, 17, 18, 19, 20, 21, 22, 23, 24, 25, 26, 27, 28, 29, 30, 31]
def l86_0 : ACode := .loop true d86_0 b86_0
/-- loop.example/g00399/spec.MarksOk -/
def a86 : AFun := ⟨32, [.tmp 2], (.seq (.region false 0 [mf 2]) (.seq (.seq (.region false 0 [mi 3 0]) (.block 0 l86_0)) (.seq (.region false 0 [mt 2]) (.ret false []))))⟩
def b97_0 : ACode := (.seq (.seq (.region false 0 [mv 6 5, mv 7 0, len 8 7, lss 9 6 8]) (.cond (.s 9) .skip (.exit 0 true [0, 1, 2, 3, 4, 5, 6, 7, 8, 9, 10, 11, 12, 13, 14, 15, 16, 17]))) (.seq (.block 1 (.seq (.region false 0 [mv 12 0, mv 13 5, ia 14 1 12 13, ld 15 1 14, mv 16 1, ⟨some 17, none, .bin .eql (.s 15) (.s 16)⟩]) (.cond (.s 17) (.seq (.region false 0 [mt 4]) (.ret true [0, 1, 2, 3, 5, 6, 7, 8, 9, 10, 11, 12, 13, 14, 15, 16, 17])) .skip))) (.region false 0 [mv 10 5, adc 11 10 1, mv 5 11])))
def d97_0 : List Nat := [2, 3, 4, 6, 7, 8, 9, 10, 11, 12, 13, 14, 15, 16, 17]
def l97_0 : ACode := .loop true d97_0 b97_0
/-- loop.example/g00399/spec.l2Has -/
def a97 : AFun := ⟨18, [.tmp 4], (.seq (.region false 0 [mf 4]) (.seq (.seq (.region false 0 [mi 5 0]) (.block 0 l97_0)) (.seq (.region false 0 [mf 4]) (.ret false []))))⟩
def b87_0 : ACode := (.seq (.seq (.region false 0 [mv 4 3, mv 5 0, len 6 5, lss 7 4 6]) (.cond (.s 7) .skip (.exit 0 true [1, 2, 3, 4, 5, 6, 7, 8, 9, 10, 11, 12, 13, 14, 15, 16, 17, 18, 19, 20, 21, 22, 23, 24, 25, 26, 27, 28]))) (.seq (.block 1 (.seq (.region true 16 [mv 10 0, mv 11 3, ia 12 1 10 11, ld 13 1 12, ⟨some 14, none, .call 18 [((.s 13), [1]), ((.c (.int .i64 1)), [1]), ((.c (.int .i64 100000)), [1])]⟩, nt 15 14, mv 16 15, mvo 17 16 0, mvo 18 16 3, ⟨some 19, (some (16, false)), .slc 1 (.s 17) none (some (.s 18))⟩, mvo 20 16 0, mvo 21 16 3, ⟨some 22, (some (16, false)), .ia 1 (.s 20) (.s 21)⟩, ldo 23 16 1 22, ⟨some 24, (some (16, false)), .call 97 [((.s 19), [1]), ((.s 23), [1])]⟩, pkt 25 16 24]) (.cond (.s 25) (.seq (.region false 0 [mf 2]) (.ret true [0, 1, 3, 4, 5, 6, 7, 8, 9, 10, 11, 12, 13, 14, 15, 16, 17, 18, 19, 20, 21, 22, 23, 24, 25, 26, 27, 28])) .skip))) (.region false 0 [mv 8 3, adc 9 8 1, mv 3 9])))
def d87_0 : List Nat := [1, 2, 4, 5, 6, 7, 8, 9, 10, 11, 12, 13, 14, 15, 16, 17, 18, 19, 20, 21, 22, 23, 24, 25, 26, 27, 28]
def l87_0 : ACode := .loop true d87_0 b87_0
/-- loop.example/g00399/spec.GensOk -/
def a87 : AFun := ⟨29, [.tmp 2], (.seq (.region false 0 [mf 2]) (.seq (.seq (.region false 0 [mi 3 0]) (.block 0 l87_0)) (.seq (.region false 0 [mv 26 0, len 27 26, ⟨some 28, none, .bin .leq (.s 27) (.c (.int .i64 12))⟩, mv 2 28]) (.ret false []))))⟩
def b63_0 : ACode := (.seq (.seq (.region false 0 [mv 4 3, fa 5 1 1, ld 6 1 5, len 7 6, lss 8 4 7]) (.cond (.s 8) .skip (.exit 0 true [0, 2, 3, 4, 5, 6, 7, 8, 9, 10, 11, 12, 13, 14, 15, 16, 17, 18, 19, 20, 21, 22, 23, 24, 25, 26, 27, 28, 29, 30, 31, 32, 33, 34, 35, 36, 37, 38, 39, 40, 41, 42, 43, 44, 45, 46]))) (.seq (.block 1 (.seq (.region false 0 [fa 11 1 1, ld 12 1 11, mv 13 3, ia 14 1 12 13, ld 15 1 14, ca 16 86 15 1, nt 17 16]) (.cond (.s 17) (.seq (.region false 0 [mf 2]) (.ret true [0, 1, 3, 4, 5, 6, 7, 8, 9, 10, 11, 12, 13, 14, 15, 16, 17, 18, 19, 20, 21, 22, 23, 24, 25, 26, 27, 28, 29, 30, 31, 32, 33, 34, 35, 36, 37, 38, 39, 40, 41, 42, 43, 44, 45, 46])) .skip))) (.region false 0 [mv 9 3, adc 10 9 1, mv 3 10])))
def d63_0 : List Nat := [0, 2, 4, 5, 6, 7, 8, 9, 10, 11, 12, 13, 14, 15, 16, 17, 18, 19, 20, 21, 22, 23, 24, 25, 26, 27, 28, 29, 30, 31, 32, 33, 34, 35, 36, 37, 38, 39, 40, 41, 42, 43, 44, 45, 46]
def l63_0 : ACode := .loop true d63_0 b63_0
/-- loop.example/g00399/spec.MetaOk -/
def a63 : AFun := ⟨47, [.tmp 2], (.seq (.region false 0 [⟨some 1, none, .bxr 6 (.s 0)⟩, mf 2]) (.seq (.seq (.region false 0 [mi 3 0]) (.block 0 l63_0)) (.seq (.region false 0 [fa 18 0 1, ld 19 1 18, ca 20 87 19 1, mv 21 20, fau 22 21 0 1, ldu 23 21 1 22, ⟨some 24, (some (21, true)), .len (.s 23)⟩, ⟨some 25, (some (21, true)), .bin .gtr (.s 24) (.c (.int .i64 0))⟩, pkf 26 21 25, mv 27 26, fau 28 27 1 1, ldu 29 27 1 28, ⟨some 30, (some (27, true)), .len (.s 29)⟩, ⟨some 31, (some (27, true)), .bin .eql (.s 30) (.c (.int .i64 3))⟩, pkf 32 27 31, mv 33 32, fau 34 33 5 1, ldu 35 33 1 34, ⟨some 36, (some (33, true)), .call 18 [((.s 35), [1]), ((.c (.int .i64 0)), [1]), ((.c (.int .i64 200)), [1])]⟩, pkf 37 33 36, mv 38 37, fau 39 38 3 1, ldu 40 38 1 39, mvu 41 38 40, fau 42 41 4 1, ldu 43 41 1 42, ⟨some 44, (some (38, true)), .pick (.s 41) (.s 43) (.c (.bool false))⟩, ⟨some 45, (some (38, true)), .un .not (.s 44)⟩, pkf 46 38 45, mv 2 46]) (.ret false []))))⟩
def b64_0 : ACode := (.seq (.seq (.region false 0 [mv 20 3, lsc 21 20 3]) (.cond (.s 21) .skip (.exit 0 true (but 81 [])))) (.seq (.block 1 (.seq (.region false 0 [fa 24 13 1, ld 25 1 24, mv 26 3, ia 27 1 25 26, ld 28 1 27, ca 29 86 28 1, nt 30 29, mv 31 30, fao 32 31 13 1, ldo 33 31 1 32, mvo 34 31 3, ⟨some 35, (some (31, false)), .ia 1 (.s 33) (.s 34)⟩, ldo 36 31 1 35, ⟨some 37, (some (31, false)), .len (.s 36)⟩, gtc 38 31 37 0, mvo 39 31 38, fau 40 39 14 1, ldu 41 39 1 40, mvu 42 39 3, iau 43 39 1 41 42, ldu 44 39 1 43, ⟨some 45, (some (39, true)), .un .not (.s 44)⟩, pko 46 31 39 45, pkt 47 31 46, mv 48 47, fao 49 48 14 1, ldo 50 48 1 49, mvo 51 48 3, ⟨some 52, (some (48, false)), .ia 1 (.s 50) (.s 51)⟩, ldo 53 48 1 52, mvo 54 48 53, fau 55 54 12 1, ldu 56 54 1 55, mvu 57 54 3, iau 58 54 1 56 57, ldu 59 54 1 58, ⟨some 60, (some (54, true)), .un .not (.s 59)⟩, pko 61 48 54 60, pkt 62 48 61, mv 63 62, fao 64 63 12 1, ldo 65 63 1 64, mvo 66 63 3, ⟨some 67, (some (63, false)), .ia 1 (.s 65) (.s 66)⟩, ldo 68 63 1 67, mvo 69 63 68, fau 70 69 1 1, ldu 71 69 1 70, ⟨some 72, (some (69, true)), .un .not (.s 71)⟩, mvu 73 69 72, mvo 74 73 3, fao 75 73 0 1, ldo 76 73 1 75, ⟨some 77, (some (73, false)), .bin .eql (.s 74) (.s 76)⟩, ⟨some 78, (some (69, true)), .pick (.s 73) (.c (.bool true)) (.s 77)⟩, pko 79 63 69 78, pkt 80 63 79]) (.cond (.s 80) (.seq (.region false 0 [mf 2]) (.ret true (but 81 [2]))) .skip))) (.region false 0 [mv 22 3, adc 23 22 1, mv 3 23])))
def d64_0 : List Nat := (but 81 [1, 3])
def l64_0 : ACode := .loop true d64_0 b64_0
/-- loop.example/g00399/spec.l8Links -/
def a64 : AFun := ⟨81, [.tmp 2], (.seq (.region false 0 [⟨some 1, none, .bxr 16 (.s 0)⟩, mf 2]) (.seq (.seq (.region false 0 [fa 4 12 1, ld 5 1 4, len 6 5, ⟨some 7, none, .bin .neq (.s 6) (.c (.int .i64 3))⟩, mv 8 7, fao 9 8 13 1, ldo 10 8 1 9, ⟨some 11, (some (8, false)), .len (.s 10)⟩, ⟨some 12, (some (8, false)), .bin .neq (.s 11) (.c (.int .i64 3))⟩, pkt 13 8 12, mv 14 13, fao 15 14 14 1, ldo 16 14 1 15, ⟨some 17, (some (14, false)), .len (.s 16)⟩, ⟨some 18, (some (14, false)), .bin .neq (.s 17) (.c (.int .i64 3))⟩, pkt 19 14 18]) (.cond (.s 19) (.seq (.region false 0 [mf 2]) (.ret false [])) .skip)) (.seq (.seq (.region false 0 [mi 3 0]) (.block 0 l64_0)) (.seq (.region false 0 [mt 2]) (.ret false [])))))⟩
def b114_0 : ACode := (.seq (.seq (.region false 0 [mv 10 8, lsc 11 10 5]) (.cond (.s 11) .skip (.exit 0 true [0, 1, 2, 3, 4, 5, 6, 7, 8, 9, 10, 11, 12, 13, 14, 15, 16, 17, 18, 19, 20, 21, 22, 23, 24, 25, 26, 27, 28, 29, 30, 31, 32, 33, 34, 35, 36, 37, 38, 39, 40, 41, 42, 43, 44, 45, 46, 47, 48, 49, 50, 51, 52, 53, 54]))) (.seq (.block 1 (.seq (.seq (.region false 0 [mv 14 1, lsc 15 14 0, mv 16 15, mvo 17 16 1, mvo 18 16 0, ⟨some 19, (some (16, false)), .len (.s 18)⟩, mvo 20 16 8, ⟨some 21, (some (16, false)), .bin .sub (.s 19) (.s 20)⟩, ⟨some 22, (some (16, false)), .bin .geq (.s 17) (.s 21)⟩, pkt 23 16 22]) (.cond (.s 23) (.seq (.region false 0 [mi 4 0, mi 5 0, mf 6]) (.ret true [0, 1, 2, 3, 7, 8, 9, 10, 11, 12, 13, 14, 15, 16, 17, 18, 19, 20, 21, 22, 23, 24, 25, 26, 27, 28, 29, 30, 31, 32, 33, 34, 35, 36, 37, 38, 39, 40, 41, 42, 43, 44, 45, 46, 47, 48, 49, 50, 51, 52, 53, 54])) .skip)) (.seq (.region false 0 [mv 24 0, mv 25 1, mv 26 8, ads 27 25 26, ia 28 1 24 27, ld 29 1 28, ⟨some 30, none, .conv .i64 (.s 29)⟩, mv 9 30]) (.seq (.region false 0 [mv 31 7, mv 32 9, ⟨some 33, none, .bin .rem (.s 32) (.c (.int .i64 128))⟩, mv 34 8, ⟨some 35, none, .bin .mul (.c (.int .i64 7)) (.s 34)⟩, ⟨some 36, none, .bin .shl (.s 33) (.s 35)⟩, ⟨some 37, none, .bin .or (.s 31) (.s 36)⟩, mv 7 37]) (.seq (.region false 0 [mv 38 9, lsc 39 38 128]) (.cond (.s 39) (.seq (.seq (.region false 0 [mv 40 8, ⟨some 41, none, .bin .gtr (.s 40) (.c (.int .i64 0))⟩, mv 42 41, mvu 43 42 9, ⟨some 44, (some (42, true)), .bin .eql (.s 43) (.c (.int .i64 0))⟩, pkf 45 42 44, mv 46 45, mvo 47 46 7, gtc 48 46 47 2147483647, pkt 49 46 48]) (.cond (.s 49) (.seq (.region false 0 [mi 4 0, mi 5 0, mf 6]) (.ret true [0, 1, 2, 3, 7, 8, 9, 10, 11, 12, 13, 14, 15, 16, 17, 18, 19, 20, 21, 22, 23, 24, 25, 26, 27, 28, 29, 30, 31, 32, 33, 34, 35, 36, 37, 38, 39, 40, 41, 42, 43, 44, 45, 46, 47, 48, 49, 50, 51, 52, 53, 54])) .skip)) (.seq (.region false 0 [mv 50 7, mv 51 1, mv 52 8, ads 53 51 52, adc 54 53 1, mv 4 50, mv 5 54, mt 6]) (.ret true [0, 1, 2, 3, 7, 8, 9, 10, 11, 12, 13, 14, 15, 16, 17, 18, 19, 20, 21, 22, 23, 24, 25, 26, 27, 28, 29, 30, 31, 32, 33, 34, 35, 36, 37, 38, 39, 40, 41, 42, 43, 44, 45, 46, 47, 48, 49, 50, 51, 52, 53, 54]))) .skip)))))) (.region false 0 [mv 12 8, adc 13 12 1, mv 8 13])))
def d114_0 : List Nat := [2, 3, 4, 5, 6, 9, 10, 11, 12, 13, 14, 15, 16, 17, 18, 19, 20, 21, 22, 23, 24, 25, 26, 27, 28, 29, 30, 31, 32, 33, 34, 35, 36, 37, 38, 39, 40, 41, 42, 43, 44, 45, 46, 47, 48, 49, 50, 51, 52, 53, 54]
def l114_0 : ACode := .loop true d114_0 b114_0
/-- loop.example/g00399/spec.GetNum -/
def a114 : AFun := ⟨55, [.tmp 4, .tmp 5, .tmp 6], (.seq (.region false 0 [mi 4 0, mi 5 0, mf 6]) (.seq (.region false 0 [mi 7 0]) (.seq (.seq (.region false 0 [mi 8 0]) (.block 0 l114_0)) (.seq (.region false 0 [mi 4 0, mi 5 0, mf 6]) (.ret false [])))))⟩
/-- loop.example/g00399/spec.l4Num -/
def a108 : AFun := ⟨36, [.tmp 2], (.seq (.region false 0 [mi 2 0]) (.seq (.region true 16 [mv 7 0, ⟨some 8, none, .nck (.s 7)⟩, fa 9 0 8, ld 10 1 9, mv 11 0, ⟨some 12, none, .nck (.s 11)⟩, fa 13 1 12, ld 14 1 13, cd 15 114 10 1 14 1, mv 6 15, ex 16 6 0, ex 17 6 1, ex 18 6 2, mv 3 16, mv 4 17, mv 5 18]) (.seq (.seq (.region false 0 [mv 19 5, nt 20 19, mv 21 20, mvo 22 21 0, ⟨some 23, (some (21, false)), .nck (.s 22)⟩, fao 24 21 2 23, ldo 25 21 1 24, nto 26 21 25, pkt 27 21 26]) (.cond (.s 27) (.seq (.region false 0 [mv 28 0, ⟨some 29, none, .nck (.s 28)⟩, fa 30 2 29, ⟨none, none, .sto 1 (.s 30) (.c (.bool false))⟩]) (.seq (.region false 0 [mi 2 0]) (.ret false []))) .skip)) (.seq (.region false 0 [mv 31 0, mv 32 4, ⟨some 33, none, .nck (.s 31)⟩, fa 34 1 33, sto 1 34 32]) (.seq (.region false 0 [mv 35 3, mv 2 35]) (.ret false []))))))⟩
def b107_0 : ACode := (.seq (.seq (.region false 0 [mv 10 5, mv 11 4, lss 12 10 11, mv 13 12, mvu 14 13 0, ⟨some 15, (some (13, true)), .nck (.s 14)⟩, fau 16 13 2 15, ldu 17 13 1 16, pkf 18 13 17]) (.cond (.s 18) .skip (.exit 0 true [0, 1, 2, 4, 5, 6, 7, 8, 9, 10, 11, 12, 13, 14, 15, 16, 17, 18, 19, 20, 21, 22, 23, 24, 25, 26, 27]))) (.seq (.block 1 (.seq (.region false 0 [mv 21 0, ⟨some 22, none, .lend 108 (.s 21) []⟩, mv 6 22]) (.region false 0 [mv 23 3, mv 24 6, ⟨some 25, none, .lit 1 [.int .i64 0] 1 [(0, 1, (.s 24))]⟩, ap 26 1 8 23 25, mv 3 26]))) (.region false 0 [mv 19 5, adc 20 19 1, mv 5 20])))
def d107_0 : List Nat := [1, 2, 6, 7, 8, 9, 10, 11, 12, 13, 14, 15, 16, 17, 18, 19, 20, 21, 22, 23, 24, 25, 26, 27]
def l107_0 : ACode := .loop true d107_0 b107_0
/-- loop.example/g00399/spec.l5Nums -/
def a107 : AFun := ⟨28, [.tmp 2], (.seq (.region false 0 [ml 2]) (.seq (.region false 0 [⟨some 7, none, .lit 1 [.int .i64 0] 0 []⟩, mv 3 7]) (.seq (.region false 0 [mv 8 0, ⟨some 9, none, .lend 108 (.s 8) []⟩, mv 4 9]) (.seq (.seq (.region false 0 [mi 5 0]) (.block 0 l107_0)) (.seq (.region false 0 [mv 27 3, mv 2 27]) (.ret false []))))))⟩
def b68_0 : ACode := (.seq (.seq (.region false 0 [mv 9 0, ⟨some 10, none, .bin .gtr (.s 9) (.c (.int .i64 127))⟩]) (.cond (.s 10) .skip (.exit 0 true [1, 2, 4, 5, 6, 7, 8, 9, 10, 11, 12, 13, 14, 15, 16, 17, 18, 19, 20, 21, 22, 23, 24]))) (.block 1 (.seq (.region false 0 [mv 11 3, mv 12 0, ⟨some 13, none, .bin .rem (.s 12) (.c (.int .i64 128))⟩, adc 14 13 128, ⟨some 15, none, .conv .u8 (.s 14)⟩, ⟨some 16, none, .lit 1 [.int .u8 0] 1 [(0, 1, (.s 15))]⟩, ap 17 1 1 11 16, mv 3 17]) (.region false 0 [mv 18 0, ⟨some 19, none, .bin .quo (.s 18) (.c (.int .i64 128))⟩, mv 0 19]))))
def d68_0 : List Nat := [1, 2, 4, 5, 6, 7, 8, 9, 10, 11, 12, 13, 14, 15, 16, 17, 18, 19, 20, 21, 22, 23, 24]
def l68_0 : ACode := .loop true d68_0 b68_0
/-- loop.example/g00399/spec.PutNum -/
def a68 : AFun := ⟨25, [.tmp 2], (.seq (.region false 0 [ml 2]) (.seq (.region false 0 [⟨some 4, none, .lit 1 [.int .u8 0] 0 []⟩, mv 3 4]) (.seq (.seq (.region false 0 [mv 5 0, ⟨some 6, none, .call 18 [((.s 5), [1]), ((.c (.int .i64 0)), [1]), ((.c (.int .i64 2147483647)), [1])]⟩, nt 7 6]) (.cond (.s 7) (.seq (.region false 0 [mv 8 3, mv 2 8]) (.ret false [])) .skip)) (.seq (.block 0 l68_0) (.seq (.region false 0 [mv 20 3, mv 21 0, ⟨some 22, none, .conv .u8 (.s 21)⟩, ⟨some 23, none, .lit 1 [.int .u8 0] 1 [(0, 1, (.s 22))]⟩, ap 24 1 1 20 23, mv 2 24]) (.ret false []))))))⟩
/-- loop.example/g00399/spec.l1Bit -/
def a115 : AFun := ⟨4, [.tmp 2], (.seq (.region false 0 [mi 2 0]) (.seq (.seq (.region false 0 [mv 3 0]) (.cond (.s 3) (.seq (.region false 0 [mi 2 1]) (.ret false [])) .skip)) (.seq (.region false 0 [mi 2 0]) (.ret false []))))⟩
def b109_0 : ACode := (.seq (.seq (.region false 0 [mv 15 4, fa 16 0 1, ld 17 1 16, len 18 17, lss 19 15 18]) (.cond (.s 19) .skip (.exit 0 true (but 85 [1, 3])))) (.seq (.block 1 (.region false 0 [mv 22 3, fa 23 0 1, ld 24 1 23, mv 25 4, ia 26 1 24 25, ld 27 1 26, ca 28 68 27 1, ap 29 1 1 22 28, mv 3 29])) (.region false 0 [mv 20 4, adc 21 20 1, mv 4 21])))
def d109_0 : List Nat := (but 85 [1, 3, 4])
def l109_0 : ACode := .loop true d109_0 b109_0
def b109_2 : ACode := (.seq (.seq (.region false 0 [mv 43 6, fa 44 1 1, ld 45 1 44, mv 46 5, ia 47 1 45 46, ld 48 1 47, len 49 48, lss 50 43 49]) (.cond (.s 50) .skip (.exit 4 true (but 85 [1, 3, 5])))) (.seq (.block 5 (.region false 0 [mv 53 3, fa 54 1 1, ld 55 1 54, mv 56 5, ia 57 1 55 56, ld 58 1 57, mv 59 6, ia 60 1 58 59, ld 61 1 60, ca 62 68 61 1, ap 63 1 1 53 62, mv 3 63])) (.region false 0 [mv 51 6, adc 52 51 1, mv 6 52])))
def d109_2 : List Nat := (but 85 [1, 3, 5, 6])
def l109_2 : ACode := .loop true d109_2 b109_2
def b109_1 : ACode := (.seq (.seq (.region false 0 [mv 30 5, lsc 31 30 3]) (.cond (.s 31) .skip (.exit 2 true (but 85 [1, 3])))) (.seq (.block 3 (.seq (.region false 0 [mv 34 3, fa 35 1 1, ld 36 1 35, mv 37 5, ia 38 1 36 37, ld 39 1 38, len 40 39, ca 41 68 40 1, ap 42 1 1 34 41, mv 3 42]) (.seq (.region false 0 [mi 6 0]) (.block 4 l109_2)))) (.region false 0 [mv 32 5, adc 33 32 1, mv 5 33])))
def d109_1 : List Nat := (but 85 [1, 3, 5])
def l109_1 : ACode := .loop true d109_1 b109_1
/-- loop.example/g00399/spec.MetaBytes -/
def a109 : AFun := ⟨85, [.tmp 2], (.seq (.region false 0 [⟨some 1, none, .bxr 6 (.s 0)⟩, ml 2]) (.seq (.seq (.region false 0 [lt 7 6 1, ⟨some 8, none, .call 63 [((.s 7), [1, 1, 1, 1, 1, 1])]⟩, nt 9 8]) (.cond (.s 9) (.seq (.region false 0 [⟨some 10, none, .lit 1 [.int .u8 0] 0 []⟩, mv 2 10]) (.ret false [])) .skip)) (.seq (.region false 0 [fa 11 0 1, ld 12 1 11, len 13 12, ca 14 68 13 1, mv 3 14]) (.seq (.seq (.region false 0 [mi 4 0]) (.block 0 l109_0)) (.seq (.seq (.region false 0 [mi 5 0]) (.block 2 l109_1)) (.seq (.region true 15 [mv 64 3, fa 65 2 1, ld 66 1 65, ca 67 115 66 1, fa 68 3 1, ld 69 1 68, ca 70 115 69 1, ⟨some 71, none, .bin .mul (.c (.int .i64 2)) (.s 70)⟩, ads 72 67 71, fa 73 4 1, ld 74 1 73, ca 75 115 74 1, ⟨some 76, none, .bin .mul (.c (.int .i64 4)) (.s 75)⟩, ads 77 72 76, ca 78 68 77 1, ap 79 1 1 64 78, mv 3 79]) (.seq (.region false 0 [mv 80 3, fa 81 5 1, ld 82 1 81, ca 83 68 82 1, ap 84 1 1 80 83, mv 2 84]) (.ret false []))))))))⟩
def b98_0 : ACode := (.seq (.seq (.region false 0 [mv 16 6, lsc 17 16 3]) (.cond (.s 17) .skip (.exit 0 true (but 65 [0, 2, 4, 5])))) (.seq (.block 1 (.seq (.region false 0 [mv 20 4, ⟨some 21, none, .lend 107 (.s 20) []⟩, mv 7 21]) (.region false 0 [fa 22 1 5, ld 23 1 22, mv 24 7, ⟨some 25, none, .lit 1 [.nil] 1 [(0, 1, (.s 24))]⟩, ap 26 1 24 23 25, fa 27 1 5, sto 1 27 26]))) (.region false 0 [mv 18 6, adc 19 18 1, mv 6 19])))
def d98_0 : List Nat := (but 65 [0, 2, 4, 5, 6])
def l98_0 : ACode := .loop true d98_0 b98_0
/-- loop.example/g00399/spec.MetaOf -/
def a98 : AFun := ⟨65, [.cell 2 6 true, .tmp 3], (.seq (.region false 0 [⟨some 2, none, .alc [.nil, .nil, .bool false, .bool false, .bool false, .int .i64 0]⟩, mf 3]) (.seq (.region false 0 [mv 9 0, ⟨some 10, none, .bld [.nil, .int .i64 0, .bool false] [(0, 1, (.s 9)), (2, 1, (.c (.bool true)))]⟩, bx 11 3 10, mv 4 11]) (.seq (.region false 0 [⟨some 12, none, .bld [.nil, .nil, .bool false, .bool false, .bool false, .int .i64 0] []⟩, ⟨some 5, none, .alc [.nil, .nil, .bool false, .bool false, .bool false, .int .i64 0]⟩, sto 6 5 12]) (.seq (.region false 0 [mv 13 4, ⟨some 14, none, .lend 107 (.s 13) []⟩, fa 15 0 5, sto 1 15 14]) (.seq (.seq (.region false 0 [mi 6 0]) (.block 0 l98_0)) (.seq (.region false 0 [mv 28 4, ⟨some 29, none, .lend 108 (.s 28) []⟩, mv 8 29]) (.seq (.region false 0 [mv 30 8, ⟨some 31, none, .bin .and (.s 30) (.c (.int .i64 1))⟩, ⟨some 32, none, .bin .neq (.s 31) (.c (.int .i64 0))⟩, fa 33 2 5, sto 1 33 32]) (.seq (.region false 0 [mv 34 8, ⟨some 35, none, .bin .and (.s 34) (.c (.int .i64 2))⟩, ⟨some 36, none, .bin .neq (.s 35) (.c (.int .i64 0))⟩, fa 37 3 5, sto 1 37 36]) (.seq (.region false 0 [mv 38 8, ⟨some 39, none, .bin .and (.s 38) (.c (.int .i64 4))⟩, ⟨some 40, none, .bin .neq (.s 39) (.c (.int .i64 0))⟩, fa 41 4 5, sto 1 41 40]) (.seq (.region false 0 [mv 42 4, ⟨some 43, none, .lend 108 (.s 42) []⟩, fa 44 5 5, sto 1 44 43]) (.seq (.seq (.region true 18 [mv 45 4, ⟨some 46, none, .nck (.s 45)⟩, fa 47 2 46, ld 48 1 47, nt 49 48, mv 50 49, ⟨some 51, (some (50, false)), .ld 6 true (.s 5)⟩, ⟨some 52, (some (50, false)), .call 109 [((.s 51), [1, 1, 1, 1, 1, 1])]⟩, ⟨some 53, (some (50, false)), .b2s (.s 52)⟩, mvo 54 50 0, ⟨some 55, (some (50, false)), .b2s (.s 54)⟩, ⟨some 56, (some (50, false)), .bin .neq (.s 53) (.s 55)⟩, pkt 57 50 56, mv 58 57, mvo 59 58 0, ⟨some 60, (some (58, false)), .len (.s 59)⟩, ⟨some 61, (some (58, false)), .bin .eql (.s 60) (.c (.int .i64 0))⟩, pkt 62 58 61]) (.cond (.s 62) (.seq (.region false 0 [⟨some 63, none, .bld [.nil, .nil, .bool false, .bool false, .bool false, .int .i64 0] []⟩, sto 6 2 63, mf 3]) (.ret false [])) .skip)) (.seq (.region false 0 [lt 64 6 5, sto 6 2 64, mt 3]) (.ret false [])))))))))))))⟩
/-- loop.example/g00399/spec.l4Sum -/
def a110 : AFun := ⟨19, [.tmp 2], (.seq (.region false 0 [ml 2]) (.seq (.region false 0 [mv 3 0, ⟨some 4, none, .bin .and (.s 3) (.c (.int .i64 255))⟩, ⟨some 5, none, .conv .u8 (.s 4)⟩, mv 6 0, ⟨some 7, none, .bin .shr (.s 6) (.c (.int .u64 8))⟩, ⟨some 8, none, .bin .and (.s 7) (.c (.int .i64 255))⟩, ⟨some 9, none, .conv .u8 (.s 8)⟩, mv 10 0, ⟨some 11, none, .bin .shr (.s 10) (.c (.int .u64 16))⟩, ⟨some 12, none, .bin .and (.s 11) (.c (.int .i64 255))⟩, ⟨some 13, none, .conv .u8 (.s 12)⟩, mv 14 0, ⟨some 15, none, .bin .shr (.s 14) (.c (.int .u64 24))⟩, ⟨some 16, none, .bin .and (.s 15) (.c (.int .i64 255))⟩, ⟨some 17, none, .conv .u8 (.s 16)⟩, ⟨some 18, none, .lit 1 [.int .u8 0] 4 [(0, 1, (.s 5)), (1, 1, (.s 9)), (2, 1, (.s 13)), (3, 1, (.s 17))]⟩, mv 2 18]) (.ret false [])))⟩
def b99_0 : ACode := (.seq (.seq (.region false 0 [mv 19 6, len 20 19, lsc 21 20 156]) (.cond (.s 21) .skip (.exit 0 true [0, 2, 3, 4, 5, 7, 8, 9, 10, 11, 12, 13, 14, 15, 16, 17, 18, 19, 20, 21, 22, 23, 24, 25, 26, 27, 28]))) (.block 1 (.region false 0 [mv 22 6, ⟨some 23, none, .lit 1 [.int .u8 0] 1 [(0, 1, (.c (.int .u8 0)))]⟩, ap 24 1 1 22 23, mv 6 24])))
def d99_0 : List Nat := [0, 2, 3, 4, 5, 7, 8, 9, 10, 11, 12, 13, 14, 15, 16, 17, 18, 19, 20, 21, 22, 23, 24, 25, 26, 27, 28]
def l99_0 : ACode := .loop true d99_0 b99_0
/-- loop.example/g00399/spec.l6Slot -/
def a99 : AFun := ⟨29, [.tmp 4], (.seq (.region false 0 [⟨some 2, none, .bxr 6 (.s 0)⟩, ml 4]) (.seq (.region false 0 [lt 7 6 2, ⟨some 8, none, .call 109 [((.s 7), [1, 1, 1, 1, 1, 1])]⟩, mv 5 8]) (.seq (.region false 0 [mv 9 1, ca 10 110 9 1, mv 11 5, len 12 11, ⟨some 13, none, .conv .u8 (.s 12)⟩, ⟨some 14, none, .lit 1 [.int .u8 0] 1 [(0, 1, (.s 13))]⟩, ap 15 1 1 10 14, mv 6 15]) (.seq (.region false 0 [mv 16 6, mv 17 5, ap 18 1 1 16 17, mv 6 18]) (.seq (.block 0 l99_0) (.seq (.region false 0 [mv 25 6, mv 26 1, ca 27 110 26 1, ap 28 1 1 25 27, mv 4 28]) (.ret false [])))))))⟩
/-- loop.example/g00399/spec.SlotOf -/
def a89 : AFun := ⟨69, [.cell 2 6 true, .tmp 3, .tmp 4], (.seq (.region false 0 [⟨some 2, none, .alc [.nil, .nil, .bool false, .bool false, .bool false, .int .i64 0]⟩, mi 3 0, mf 4]) (.seq (.seq (.region false 0 [mv 9 0, len 10 9, ⟨some 11, none, .bin .neq (.s 10) (.c (.int .i64 160))⟩]) (.cond (.s 11) (.seq (.region false 0 [⟨some 12, none, .bld [.nil, .nil, .bool false, .bool false, .bool false, .int .i64 0] []⟩, sto 6 2 12, mi 3 0, mf 4]) (.ret false [])) .skip)) (.seq (.region true 23 [mv 13 0, ⟨some 14, none, .ia 1 (.s 13) (.c (.int .i64 0))⟩, ld 15 1 14, ⟨some 16, none, .conv .i64 (.s 15)⟩, mv 17 0, ⟨some 18, none, .ia 1 (.s 17) (.c (.int .i64 1))⟩, ld 19 1 18, ⟨some 20, none, .conv .i64 (.s 19)⟩, ⟨some 21, none, .bin .shl (.s 20) (.c (.int .u64 8))⟩, ads 22 16 21, mv 23 0, ⟨some 24, none, .ia 1 (.s 23) (.c (.int .i64 2))⟩, ld 25 1 24, ⟨some 26, none, .conv .i64 (.s 25)⟩, ⟨some 27, none, .bin .shl (.s 26) (.c (.int .u64 16))⟩, ads 28 22 27, mv 29 0, ⟨some 30, none, .ia 1 (.s 29) (.c (.int .i64 3))⟩, ld 31 1 30, ⟨some 32, none, .conv .i64 (.s 31)⟩, ⟨some 33, none, .bin .shl (.s 32) (.c (.int .u64 24))⟩, ads 34 28 33, mv 5 34]) (.seq (.region false 0 [mv 35 0, ⟨some 36, none, .ia 1 (.s 35) (.c (.int .i64 4))⟩, ld 37 1 36, ⟨some 38, none, .conv .i64 (.s 37)⟩, mv 6 38]) (.seq (.seq (.region false 0 [mv 39 5, ⟨some 40, none, .call 18 [((.s 39), [1]), ((.c (.int .i64 1)), [1]), ((.c (.int .i64 1000000)), [1])]⟩, nt 41 40, mv 42 41, mvo 43 42 6, gtc 44 42 43 151, pkt 45 42 44]) (.cond (.s 45) (.seq (.region false 0 [⟨some 46, none, .bld [.nil, .nil, .bool false, .bool false, .bool false, .int .i64 0] []⟩, sto 6 2 46, mi 3 0, mf 4]) (.ret false [])) .skip)) (.seq (.region false 0 [mv 48 0, mv 49 6, ⟨some 50, none, .bin .add (.c (.int .i64 5)) (.s 49)⟩, ⟨some 51, none, .slc 1 (.s 48) (some (.c (.int .i64 5))) (some (.s 50))⟩, ca 52 98 51 1, mv 47 52, ex 53 47 0, ex 54 47 1, ⟨some 7, none, .alc [.nil, .nil, .bool false, .bool false, .bool false, .int .i64 0]⟩, sto 6 7 53, mv 8 54]) (.seq (.seq (.region true 11 [mv 55 8, nt 56 55, mv 57 56, ⟨some 58, (some (57, false)), .ld 6 true (.s 7)⟩, mvo 59 57 5, ⟨some 60, (some (57, false)), .call 99 [((.s 58), [1, 1, 1, 1, 1, 1]), ((.s 59), [1])]⟩, ⟨some 61, (some (57, false)), .b2s (.s 60)⟩, mvo 62 57 0, ⟨some 63, (some (57, false)), .b2s (.s 62)⟩, ⟨some 64, (some (57, false)), .bin .neq (.s 61) (.s 63)⟩, pkt 65 57 64]) (.cond (.s 65) (.seq (.region false 0 [⟨some 66, none, .bld [.nil, .nil, .bool false, .bool false, .bool false, .int .i64 0] []⟩, sto 6 2 66, mi 3 0, mf 4]) (.ret false [])) .skip)) (.seq (.region false 0 [lt 67 6 7, mv 68 5, sto 6 2 67, mv 3 68, mt 4]) (.ret false [])))))))))⟩
/-- loop.example/g00399/spec.l6Which -/
def a88 : AFun := ⟨36, [.tmp 2], (.seq (.region false 0 [⟨some 1, none, .bxr 2 (.s 0)⟩, mi 2 0]) (.seq (.region false 0 [fa 10 0 1, ld 11 1 10, ca 12 89 11 1, mv 9 12, ex 13 9 0, ex 14 9 1, ex 15 9 2, ⟨some 3, none, .alc [.nil, .nil, .bool false, .bool false, .bool false, .int .i64 0]⟩, sto 6 3 13, mv 4 14, mv 5 15]) (.seq (.region false 0 [fa 17 1 1, ld 18 1 17, ca 19 89 18 1, mv 16 19, ex 20 16 0, ex 21 16 1, ex 22 16 2, ⟨some 6, none, .alc [.nil, .nil, .bool false, .bool false, .bool false, .int .i64 0]⟩, sto 6 6 20, mv 7 21, mv 8 22]) (.seq (.block 0 (.seq (.region false 0 [mv 24 5, mv 25 24, mvu 26 25 8, ⟨some 27, (some (25, true)), .un .not (.s 26)⟩, mvu 28 25 27, mvo 29 28 4, mvo 30 28 7, ⟨some 31, (some (28, false)), .bin .geq (.s 29) (.s 30)⟩, ⟨some 32, (some (25, true)), .pick (.s 28) (.c (.bool true)) (.s 31)⟩, pkf 33 25 32, mv 23 33]) (.cond (.s 23) (.seq (.region false 0 [mi 2 0]) (.ret false [])) (.seq (.region false 0 [mv 35 8, mv 34 35]) (.cond (.s 34) (.seq (.region false 0 [mi 2 1]) (.ret false [])) .skip))))) (.seq (.region false 0 [mi 2 (-1)]) (.ret false []))))))⟩
/-- loop.example/g00399/spec.SlotGet -/
def a65 : AFun := ⟨25, [.cell 2 6 true, .tmp 3, .tmp 4], (.seq (.region false 0 [⟨some 1, none, .bxr 2 (.s 0)⟩, ⟨some 2, none, .alc [.nil, .nil, .bool false, .bool false, .bool false, .int .i64 0]⟩, mi 3 0, mf 4]) (.seq (.region false 0 [fa 9 0 1, ld 10 1 9, mv 5 10]) (.seq (.seq (.region false 0 [lt 11 2 1, ⟨some 12, none, .call 88 [((.s 11), [1, 1])]⟩, ⟨some 13, none, .bin .eql (.s 12) (.c (.int .i64 1))⟩]) (.cond (.s 13) (.region false 0 [fa 14 1 1, ld 15 1 14, mv 5 15]) .skip)) (.seq (.region false 0 [mv 17 5, ca 18 89 17 1, mv 16 18, ex 19 16 0, ex 20 16 1, ex 21 16 2, ⟨some 6, none, .alc [.nil, .nil, .bool false, .bool false, .bool false, .int .i64 0]⟩, sto 6 6 19, mv 7 20, mv 8 21]) (.seq (.region false 0 [lt 22 6 6, mv 23 7, mv 24 8, sto 6 2 22, mv 3 23, mv 4 24]) (.ret false []))))))⟩
def b90_0 : ACode := (.seq (.seq (.region false 0 [mv 6 5, mv 7 0, len 8 7, lss 9 6 8, mv 10 9, mvu 11 10 5, mvu 12 10 1, ⟨some 13, (some (10, true)), .len (.s 12)⟩, ⟨some 14, (some (10, true)), .bin .lss (.s 11) (.s 13)⟩, pkf 15 10 14]) (.cond (.s 15) .skip (.exit 0 true [2, 3, 4, 5, 6, 7, 8, 9, 10, 11, 12, 13, 14, 15, 16, 17, 18, 19, 20, 21, 22, 23, 24, 25, 26, 27, 28, 29, 30, 31]))) (.seq (.block 1 (.seq (.region true 9 [mv 18 0, mv 19 5, ia 20 1 18 19, ld 21 1 20, mv 22 1, mv 23 5, ia 24 1 22 23, ld 25 1 24, nes 26 21 25]) (.cond (.s 26) (.seq (.region false 0 [mf 4]) (.ret true [0, 1, 2, 3, 5, 6, 7, 8, 9, 10, 11, 12, 13, 14, 15, 16, 17, 18, 19, 20, 21, 22, 23, 24, 25, 26, 27, 28, 29, 30, 31])) .skip))) (.region false 0 [mv 16 5, adc 17 16 1, mv 5 17])))
def d90_0 : List Nat := [2, 3, 4, 6, 7, 8, 9, 10, 11, 12, 13, 14, 15, 16, 17, 18, 19, 20, 21, 22, 23, 24, 25, 26, 27, 28, 29, 30, 31]
def l90_0 : ACode := .loop true d90_0 b90_0
/-- loop.example/g00399/spec.l5Same -/
def a90 : AFun := ⟨32, [.tmp 4], (.seq (.region false 0 [mf 4]) (.seq (.seq (.region false 0 [mi 5 0]) (.block 0 l90_0)) (.seq (.region false 0 [mv 27 0, len 28 27, mv 29 1, len 30 29, ⟨some 31, none, .bin .eql (.s 28) (.s 30)⟩, mv 4 31]) (.ret false []))))⟩
def b66_0 : ACode := (.seq (.seq (.region false 0 [mv 49 5, fa 50 1 2, ld 51 1 50, len 52 51, lss 53 49 52]) (.cond (.s 53) .skip (.exit 0 true (but 68 [])))) (.seq (.block 1 (.seq (.region true 12 [fa 56 1 2, ld 57 1 56, mv 58 5, ia 59 1 57 58, ld 60 1 59, fa 61 1 3, ld 62 1 61, mv 63 5, ia 64 1 62 63, ld 65 1 64, cd 66 90 60 1 65 1, nt 67 66]) (.cond (.s 67) (.seq (.region false 0 [mf 4]) (.ret true (but 68 [4]))) .skip))) (.region false 0 [mv 54 5, adc 55 54 1, mv 5 55])))
def d66_0 : List Nat := (but 68 [2, 3, 5])
def l66_0 : ACode := .loop true d66_0 b66_0
/-- loop.example/g00399/spec.SameMeta -/
def a66 : AFun := ⟨68, [.tmp 4], (.seq (.region false 0 [⟨some 2, none, .bxr 6 (.s 0)⟩, ⟨some 3, none, .bxr 6 (.s 1)⟩, mf 4]) (.seq (.seq (.region false 0 [fa 6 1 2, ld 7 1 6, len 8 7, fa 9 1 3, ld 10 1 9, len 11 10, nes 12 8 11, mv 13 12, fao 14 13 0 2, ldo 15 13 1 14, fao 16 13 0 3, ldo 17 13 1 16, ⟨some 18, (some (13, false)), .call 90 [((.s 15), [1]), ((.s 17), [1])]⟩, nto 19 13 18, pkt 20 13 19, mv 21 20, fao 22 21 2 2, ldo 23 21 1 22, fao 24 21 2 3, ldo 25 21 1 24, ⟨some 26, (some (21, false)), .beq true (.s 23) (.s 25)⟩, pkt 27 21 26, mv 28 27, fao 29 28 3 2, ldo 30 28 1 29, fao 31 28 3 3, ldo 32 28 1 31, ⟨some 33, (some (28, false)), .beq true (.s 30) (.s 32)⟩, pkt 34 28 33, mv 35 34, fao 36 35 4 2, ldo 37 35 1 36, fao 38 35 4 3, ldo 39 35 1 38, ⟨some 40, (some (35, false)), .beq true (.s 37) (.s 39)⟩, pkt 41 35 40, mv 42 41, fao 43 42 5 2, ldo 44 42 1 43, fao 45 42 5 3, ldo 46 42 1 45, ⟨some 47, (some (42, false)), .bin .neq (.s 44) (.s 46)⟩, pkt 48 42 47]) (.cond (.s 48) (.seq (.region false 0 [mf 4]) (.ret false [])) .skip)) (.seq (.seq (.region false 0 [mi 5 0]) (.block 0 l66_0)) (.seq (.region false 0 [mt 4]) (.ret false [])))))⟩
def b37_0 : ACode := (.seq (.seq (.region false 0 [mv 53 3, fa 54 15 1, ld 55 1 54, len 56 55, lss 57 53 56]) (.cond (.s 57) .skip (.exit 0 true (but 99 [1])))) (.seq (.block 1 (.seq (.region true 25 [fa 60 15 1, ld 61 1 60, mv 62 3, ia 63 1 61 62, ld 64 1 63, ⟨some 65, none, .call 18 [((.s 64), [1]), ((.c (.int .i64 1)), [1]), ((.c (.int .i64 200)), [1])]⟩, nt 66 65, mv 67 66, mvo 68 67 3, gtc 69 67 68 0, mvo 70 67 69, fau 71 70 15 1, ldu 72 70 1 71, mvu 73 70 3, ⟨some 74, (some (70, true)), .bin .sub (.s 73) (.c (.int .i64 1))⟩, iau 75 70 1 72 74, ldu 76 70 1 75, fau 77 70 15 1, ldu 78 70 1 77, mvu 79 70 3, iau 80 70 1 78 79, ldu 81 70 1 80, ⟨some 82, (some (70, true)), .bin .geq (.s 76) (.s 81)⟩, pko 83 67 70 82, pkt 84 67 83]) (.cond (.s 84) (.seq (.region false 0 [mf 2]) (.ret true (but 99 [2]))) .skip))) (.region false 0 [mv 58 3, adc 59 58 1, mv 3 59])))
def d37_0 : List Nat := (but 99 [1, 3])
def l37_0 : ACode := .loop true d37_0 b37_0
/-- loop.example/g00399/spec.NodeOk -/
def a37 : AFun := ⟨99, [.tmp 2], (.seq (.region false 0 [⟨some 1, none, .bxr 16 (.s 0)⟩, mf 2]) (.seq (.seq (.region false 0 [fa 7 0 1, ld 8 1 7, ⟨some 9, none, .call 18 [((.s 8), [1]), ((.c (.int .i64 0)), [1]), ((.c (.int .i64 2)), [1])]⟩, nt 10 9, mv 11 10, fao 12 11 3 1, ldo 13 11 1 12, ⟨some 14, (some (11, false)), .call 39 [((.s 13), [1])]⟩, nto 15 11 14, pkt 16 11 15, mv 17 16, fao 18 17 4 1, ⟨some 19, (some (17, false)), .ld 6 true (.s 18)⟩, ⟨some 20, (some (17, false)), .call 63 [((.s 19), [1, 1, 1, 1, 1, 1])]⟩, nto 21 17 20, pkt 22 17 21, mv 23 22, ⟨some 24, (some (23, false)), .ld 16 true (.s 1)⟩, ⟨some 25, (some (23, false)), .call 64 [((.s 24), [1, 1, 1, 1, 1, 1, 1, 1, 1, 1, 1, 1, 1, 1, 1, 1])]⟩, nto 26 23 25, pkt 27 23 26, mv 28 27, fao 29 28 2 1, ldo 30 28 1 29, mvo 31 28 30, fau 32 31 1 1, ldu 33 31 1 32, ⟨some 34, (some (31, true)), .un .not (.s 33)⟩, mvu 35 31 34, fao 36 35 0 1, ldo 37 35 1 36, ⟨some 38, (some (35, false)), .bin .eql (.s 37) (.c (.int .i64 2))⟩, ⟨some 39, (some (31, true)), .pick (.s 35) (.c (.bool true)) (.s 38)⟩, pko 40 28 31 39, pkt 41 28 40, mv 42 41, fao 43 42 1 1, ldo 44 42 1 43, nto 45 42 44, mvo 46 42 45, fau 47 46 15 1, ldu 48 46 1 47, ⟨some 49, (some (46, true)), .len (.s 48)⟩, ⟨some 50, (some (46, true)), .bin .gtr (.s 49) (.c (.int .i64 0))⟩, pko 51 42 46 50, pkt 52 42 51]) (.cond (.s 52) (.seq (.region false 0 [mf 2]) (.ret false [])) .skip)) (.seq (.seq (.region false 0 [mi 3 0]) (.block 0 l37_0)) (.seq (.region false 0 [fa 86 10 1, lt 87 2 86, ⟨some 88, none, .call 65 [((.s 87), [1, 1])]⟩, mv 85 88, ex 89 85 0, ex 90 85 1, ex 91 85 2, ⟨some 4, none, .alc [.nil, .nil, .bool false, .bool false, .bool false, .int .i64 0]⟩, sto 6 4 89, mv 5 90, mv 6 91]) (.seq (.region false 0 [mv 92 6, mv 93 92, ⟨some 94, (some (93, true)), .ld 6 true (.s 4)⟩, fau 95 93 4 1, ⟨some 96, (some (93, true)), .ld 6 true (.s 95)⟩, ⟨some 97, (some (93, true)), .call 66 [((.s 94), [1, 1, 1, 1, 1, 1]), ((.s 96), [1, 1, 1, 1, 1, 1])]⟩, pkf 98 93 97, mv 2 98]) (.ret false []))))))⟩
def b38_1 : ACode := (.seq (.seq (.region false 0 [mv 11 4, lsc 12 11 3]) (.cond (.s 12) .skip (.exit 2 true (but 87 [1, 3])))) (.seq (.block 3 (.seq (.region true 19 [fa 15 0 1, ld 16 1 15, mv 17 3, ia 18 16 16 17, fa 19 12 18, ld 20 1 19, mv 21 4, ia 22 1 20 21, ld 23 1 22, fa 24 0 1, ld 25 1 24, mv 26 4, ia 27 16 25 26, fa 28 12 27, ld 29 1 28, mv 30 3, ia 31 1 29 30, ld 32 1 31, ⟨some 33, none, .beq true (.s 23) (.s 32)⟩]) (.cond (.s 33) (.seq (.region false 0 [mf 2]) (.ret true (but 87 [2]))) .skip))) (.region false 0 [mv 13 4, adc 14 13 1, mv 4 14])))
def d38_1 : List Nat := (but 87 [1, 3, 4])
def l38_1 : ACode := .loop true d38_1 b38_1
def b38_0 : ACode := (.seq (.seq (.region false 0 [mv 7 3, lsc 8 7 3]) (.cond (.s 8) .skip (.exit 0 true (but 87 [1])))) (.seq (.block 1 (.seq (.region false 0 [mi 4 0]) (.block 2 l38_1))) (.region false 0 [mv 9 3, adc 10 9 1, mv 3 10])))
def d38_0 : List Nat := (but 87 [1, 3])
def l38_0 : ACode := .loop true d38_0 b38_0
def b38_2 : ACode := (.seq (.seq (.region false 0 [mv 34 5, fa 35 1 1, ld 36 1 35, len 37 36, lss 38 34 37]) (.cond (.s 38) .skip (.exit 4 true (but 87 [1])))) (.seq (.block 5 (.seq (.region false 0 [fa 41 1 1, ld 42 1 41, mv 43 5, ia 44 3 42 43, lt 45 3 44, ⟨some 6, none, .alc [.int .i64 0, .int .i64 0, .nil]⟩, sto 3 6 45]) (.seq (.region true 37 [fa 46 0 6, ld 47 1 46, ⟨some 48, none, .call 18 [((.s 47), [1]), ((.c (.int .i64 0)), [1]), ((.c (.int .i64 2)), [1])]⟩, nt 49 48, mv 50 49, fao 51 50 1 6, ldo 52 50 1 51, ⟨some 53, (some (50, false)), .call 18 [((.s 52), [1]), ((.c (.int .i64 0)), [1]), ((.c (.int .i64 2)), [1])]⟩, nto 54 50 53, pkt 55 50 54, mv 56 55, fao 57 56 0 6, ldo 58 56 1 57, fao 59 56 1 6, ldo 60 56 1 59, ⟨some 61, (some (56, false)), .bin .eql (.s 58) (.s 60)⟩, pkt 62 56 61, mv 63 62, fao 64 63 0 1, ldo 65 63 1 64, fao 66 63 0 6, ldo 67 63 1 66, ⟨some 68, (some (63, false)), .ia 16 (.s 65) (.s 67)⟩, fao 69 63 12 68, ldo 70 63 1 69, fao 71 63 1 6, ldo 72 63 1 71, ⟨some 73, (some (63, false)), .ia 1 (.s 70) (.s 72)⟩, ldo 74 63 1 73, nto 75 63 74, pkt 76 63 75, mv 77 76, fao 78 77 2 6, ldo 79 77 1 78, ⟨some 80, (some (77, false)), .len (.s 79)⟩, gtc 81 77 80 400, pkt 82 77 81]) (.cond (.s 82) (.seq (.region false 0 [mf 2]) (.ret true (but 87 [2]))) .skip)))) (.region false 0 [mv 39 5, adc 40 39 1, mv 5 40])))
def d38_2 : List Nat := (but 87 [1, 5])
def l38_2 : ACode := .loop true d38_2 b38_2
/-- loop.example/g00399/spec.l12Lines -/
def a38 : AFun := ⟨87, [.tmp 2], (.seq (.region false 0 [⟨some 1, none, .bxr 5 (.s 0)⟩, mf 2]) (.seq (.seq (.region false 0 [mi 3 0]) (.block 0 l38_0)) (.seq (.seq (.region false 0 [mi 5 0]) (.block 4 l38_2)) (.seq (.region false 0 [fa 83 1 1, ld 84 1 83, len 85 84, ⟨some 86, none, .bin .leq (.s 85) (.c (.int .i64 40))⟩, mv 2 86]) (.ret false [])))))⟩
def b17_1 : ACode := (.seq (.seq (.region false 0 [mv 51 5, lsc 52 51 8]) (.cond (.s 52) .skip (.exit 2 true (but 127 [1, 3])))) (.seq (.block 3 (.seq (.region true 9 [fa 55 3 4, ld 56 1 55, mv 57 5, ia 58 1 56 57, ld 59 1 58, fa 60 2 1, ld 61 1 60, len 62 61, ⟨some 63, none, .bin .gtr (.s 59) (.s 62)⟩]) (.cond (.s 63) (.seq (.region false 0 [mf 2]) (.ret true (but 127 [2]))) .skip))) (.region false 0 [mv 53 5, adc 54 53 1, mv 5 54])))
def d17_1 : List Nat := (but 127 [1, 3, 4, 5])
def l17_1 : ACode := .loop true d17_1 b17_1
def b17_0 : ACode := (.seq (.seq (.region false 0 [mv 24 3, lsc 25 24 3]) (.cond (.s 25) .skip (.exit 0 true (but 127 [1])))) (.seq (.block 1 (.seq (.region false 0 [fa 28 0 1, ld 29 1 28, mv 30 3, ia 31 16 29 30, lt 32 16 31, ⟨some 4, none, .alc [.int .i64 0, .bool false, .bool false, .nil, .nil, .nil, .bool false, .bool false, .bool false, .int .i64 0, .nil, .nil, .nil, .nil, .nil, .nil]⟩, sto 16 4 32]) (.seq (.seq (.region false 0 [fa 33 0 4, ld 34 1 33, mv 35 3, nes 36 34 35, mv 37 36, ⟨some 38, (some (37, false)), .ld 16 true (.s 4)⟩, ⟨some 39, (some (37, false)), .call 37 [((.s 38), [1, 1, 1, 1, 1, 1, 1, 1, 1, 1, 1, 1, 1, 1, 1, 1])]⟩, nto 40 37 39, pkt 41 37 40, mv 42 41, fao 43 42 4 4, fao 44 42 5 43, ldo 45 42 1 44, fao 46 42 2 1, ldo 47 42 1 46, ⟨some 48, (some (42, false)), .len (.s 47)⟩, ⟨some 49, (some (42, false)), .bin .gtr (.s 45) (.s 48)⟩, pkt 50 42 49]) (.cond (.s 50) (.seq (.region false 0 [mf 2]) (.ret true (but 127 [2]))) .skip)) (.seq (.region false 0 [mi 5 0]) (.block 2 l17_1))))) (.region false 0 [mv 26 3, adc 27 26 1, mv 3 27])))
def d17_0 : List Nat := (but 127 [1, 3])
def l17_0 : ACode := .loop true d17_0 b17_0
def b17_2 : ACode := (.seq (.seq (.region false 0 [mv 64 6, fa 65 2 1, ld 66 1 65, len 67 66, lss 68 64 67]) (.cond (.s 68) .skip (.exit 4 true (but 127 [1])))) (.seq (.block 5 (.seq (.region false 0 [fa 71 2 1, ld 72 1 71, mv 73 6, ia 74 2 72 73, fa 75 0 74, ld 76 1 75, ⟨some 77, none, .call 18 [((.s 76), [1]), ((.c (.int .i64 0)), [1]), ((.c (.int .i64 7)), [1])]⟩, nt 78 77, mv 79 78, fao 80 79 2 1, ldo 81 79 1 80, mvo 82 79 6, ⟨some 83, (some (79, false)), .ia 2 (.s 81) (.s 82)⟩, fao 84 79 1 83, ldo 85 79 1 84, mvo 86 79 6, ⟨some 87, (some (79, false)), .call 18 [((.s 85), [1]), ((.c (.int .i64 0)), [1]), ((.s 86), [1])]⟩, nto 88 79 87, pkt 89 79 88]) (.cond (.s 89) (.seq (.region false 0 [mf 2]) (.ret true (but 127 [2]))) .skip))) (.region false 0 [mv 69 6, adc 70 69 1, mv 6 70])))
def d17_2 : List Nat := (but 127 [1, 6])
def l17_2 : ACode := .loop true d17_2 b17_2
def b17_3 : ACode := (.seq (.seq (.region false 0 [mv 90 7, fa 91 3 1, ld 92 1 91, len 93 92, lss 94 90 93]) (.cond (.s 94) .skip (.exit 6 true (but 127 [1])))) (.seq (.block 7 (.seq (.region true 28 [fa 97 3 1, ld 98 1 97, mv 99 7, ia 100 1 98 99, ld 101 1 100, fa 102 2 1, ld 103 1 102, len 104 103, ⟨some 105, none, .call 18 [((.s 101), [1]), ((.c (.int .i64 1)), [1]), ((.s 104), [1])]⟩, nt 106 105, mv 107 106, mvo 108 107 7, gtc 109 107 108 0, mvo 110 107 109, fau 111 110 3 1, ldu 112 110 1 111, mvu 113 110 7, ⟨some 114, (some (110, true)), .bin .sub (.s 113) (.c (.int .i64 1))⟩, iau 115 110 1 112 114, ldu 116 110 1 115, fau 117 110 3 1, ldu 118 110 1 117, mvu 119 110 7, iau 120 110 1 118 119, ldu 121 110 1 120, ⟨some 122, (some (110, true)), .bin .geq (.s 116) (.s 121)⟩, pko 123 107 110 122, pkt 124 107 123]) (.cond (.s 124) (.seq (.region false 0 [mf 2]) (.ret true (but 127 [2]))) .skip))) (.region false 0 [mv 95 7, adc 96 95 1, mv 7 96])))
def d17_3 : List Nat := (but 127 [1, 7])
def l17_3 : ACode := .loop true d17_3 b17_3
/-- loop.example/g00399/spec.WorldOk -/
def a17 : AFun := ⟨127, [.tmp 2], (.seq (.region false 0 [⟨some 1, none, .bxr 5 (.s 0)⟩, mf 2]) (.seq (.seq (.region false 0 [fa 8 0 1, ld 9 1 8, len 10 9, ⟨some 11, none, .bin .neq (.s 10) (.c (.int .i64 3))⟩, mv 12 11, fao 13 12 2 1, ldo 14 12 1 13, ⟨some 15, (some (12, false)), .len (.s 14)⟩, gtc 16 12 15 200, pkt 17 12 16, mv 18 17, fao 19 18 4 1, ldo 20 18 1 19, ⟨some 21, (some (18, false)), .call 18 [((.s 20), [1]), ((.c (.int .i64 2)), [1]), ((.c (.int .i64 100000)), [1])]⟩, nto 22 18 21, pkt 23 18 22]) (.cond (.s 23) (.seq (.region false 0 [mf 2]) (.ret false [])) .skip)) (.seq (.seq (.region false 0 [mi 3 0]) (.block 0 l17_0)) (.seq (.seq (.region false 0 [mi 6 0]) (.block 4 l17_2)) (.seq (.seq (.region false 0 [mi 7 0]) (.block 6 l17_3)) (.seq (.region false 0 [lt 125 5 1, ⟨some 126, none, .call 38 [((.s 125), [16, 3, 2, 1, 1])]⟩, mv 2 126]) (.ret false [])))))))⟩
def b67_0 : ACode := (.seq (.seq (.region false 0 [mv 6 5, mv 7 0, len 8 7, lss 9 6 8]) (.cond (.s 9) .skip (.exit 0 true [0, 1, 2, 5, 6, 7, 8, 9, 10, 11, 12, 13, 14, 15, 16, 17, 18, 19, 20, 21, 22, 23, 24, 25, 26, 27]))) (.seq (.block 1 (.seq (.region false 0 [mv 12 3, mv 13 0, mv 14 5, ia 15 1 13 14, ld 16 1 15, ⟨some 17, none, .conv .i64 (.s 16)⟩, ads 18 12 17, ⟨some 19, none, .bin .rem (.s 18) (.c (.int .i64 65521))⟩, mv 3 19]) (.region false 0 [mv 20 4, mv 21 3, ads 22 20 21, ⟨some 23, none, .bin .rem (.s 22) (.c (.int .i64 65521))⟩, mv 4 23]))) (.region false 0 [mv 10 5, adc 11 10 1, mv 5 11])))
def d67_0 : List Nat := [1, 2, 6, 7, 8, 9, 10, 11, 12, 13, 14, 15, 16, 17, 18, 19, 20, 21, 22, 23, 24, 25, 26, 27]
def l67_0 : ACode := .loop true d67_0 b67_0
/-- loop.example/g00399/spec.SumOf -/
def a67 : AFun := ⟨28, [.tmp 2], (.seq (.region false 0 [mi 2 0]) (.seq (.region false 0 [mi 3 1, mi 4 0]) (.seq (.seq (.region false 0 [mi 5 0]) (.block 0 l67_0)) (.seq (.region false 0 [mv 24 4, ⟨some 25, none, .bin .mul (.s 24) (.c (.int .i64 65536))⟩, mv 26 3, ads 27 25 26, mv 2 27]) (.ret false [])))))⟩
/-- loop.example/g00399/spec.Digest -/
def a41 : AFun := ⟨19, [.tmp 4], (.seq (.region false 0 [mi 4 0]) (.seq (.seq (.region false 0 [mv 5 0, ca 6 39 5 1, nt 7 6, mv 8 7, mvo 9 8 1, ⟨some 10, (some (8, false)), .call 18 [((.s 9), [1]), ((.c (.int .i64 0)), [1]), ((.c (.int .i64 7)), [1])]⟩, nto 11 8 10, pkt 12 8 11]) (.cond (.s 12) (.seq (.region false 0 [mi 4 0]) (.ret false [])) .skip)) (.seq (.region false 0 [mv 13 0, mv 14 1, ia 15 1 13 14, ld 16 1 15, ca 17 68 16 1, ca 18 67 17 1, mv 4 18]) (.ret false []))))⟩
def b20_0 : ACode := (.seq (.seq (.region false 0 [mv 6 4, lsc 7 6 8, mv 8 7, mvu 9 8 0, ⟨some 10, (some (8, true)), .call 39 [((.s 9), [1])]⟩, pkf 11 8 10]) (.cond (.s 11) .skip (.exit 0 true [0, 1, 2, 4, 5, 6, 7, 8, 9, 10, 11, 12, 13, 14, 15, 16, 17, 18, 19, 20]))) (.seq (.block 1 (.region false 0 [mv 14 3, mv 15 0, mv 16 4, cd 17 41 15 1 16 1, ⟨some 18, none, .lit 1 [.int .i64 0] 1 [(0, 1, (.s 17))]⟩, ap 19 1 8 14 18, mv 3 19])) (.region false 0 [mv 12 4, adc 13 12 1, mv 4 13])))
def d20_0 : List Nat := [1, 2, 5, 6, 7, 8, 9, 10, 11, 12, 13, 14, 15, 16, 17, 18, 19, 20]
def l20_0 : ACode := .loop true d20_0 b20_0
/-- loop.example/g00399/spec.Digests -/
def a20 : AFun := ⟨21, [.tmp 2], (.seq (.region false 0 [ml 2]) (.seq (.region false 0 [⟨some 5, none, .lit 1 [.int .i64 0] 0 []⟩, mv 3 5]) (.seq (.seq (.region false 0 [mi 4 0]) (.block 0 l20_0)) (.seq (.region false 0 [mv 20 3, mv 2 20]) (.ret false [])))))⟩
def b40_0 : ACode := (.seq (.seq (.region false 0 [mv 4 3, mv 5 0, len 6 5, lss 7 4 6]) (.cond (.s 7) .skip (.exit 0 true [1, 2, 3, 4, 5, 6, 7, 8, 9, 10, 11, 12, 13, 14, 15, 16, 17]))) (.seq (.block 1 (.seq (.region false 0 [mv 10 0, mv 11 3, ia 12 1 10 11, ld 13 1 12, lsc 14 13 0]) (.cond (.s 14) (.seq (.region false 0 [mf 2]) (.ret true [0, 1, 3, 4, 5, 6, 7, 8, 9, 10, 11, 12, 13, 14, 15, 16, 17])) .skip))) (.region false 0 [mv 8 3, adc 9 8 1, mv 3 9])))
def d40_0 : List Nat := [1, 2, 4, 5, 6, 7, 8, 9, 10, 11, 12, 13, 14, 15, 16, 17]
def l40_0 : ACode := .loop true d40_0 b40_0
/-- loop.example/g00399/spec.DigestsOk -/
def a40 : AFun := ⟨18, [.tmp 2], (.seq (.region false 0 [mf 2]) (.seq (.seq (.region false 0 [mi 3 0]) (.block 0 l40_0)) (.seq (.region false 0 [mv 15 0, len 16 15, ⟨some 17, none, .bin .eql (.s 16) (.c (.int .i64 8))⟩, mv 2 17]) (.ret false []))))⟩
def b19_0 : ACode := (.seq (.seq (.region false 0 [mv 18 7, lsc 19 18 8]) (.cond (.s 19) .skip (.exit 0 true [0, 1, 2, 3, 4, 5, 7, 8, 9, 10, 11, 12, 13, 14, 15, 16, 17, 18, 19, 20, 21, 22, 23, 24, 25, 26, 27, 28, 29, 30, 31, 32, 33, 34]))) (.seq (.block 1 (.seq (.region true 8 [mv 22 0, mv 23 7, cd 24 41 22 1 23 1, mv 25 1, mv 26 7, ia 27 1 25 26, ld 28 1 27, nes 29 24 28]) (.cond (.s 29) (.region false 0 [mv 30 6, mv 31 7, ⟨some 32, none, .lit 1 [.int .i64 0] 1 [(0, 1, (.s 31))]⟩, ap 33 1 8 30 32, mv 6 33]) .skip))) (.region false 0 [mv 20 7, adc 21 20 1, mv 7 21])))
def d19_0 : List Nat := [2, 3, 4, 5, 8, 9, 10, 11, 12, 13, 14, 15, 16, 17, 18, 19, 20, 21, 22, 23, 24, 25, 26, 27, 28, 29, 30, 31, 32, 33, 34]
def l19_0 : ACode := .loop true d19_0 b19_0
/-- loop.example/g00399/spec.Compare -/
def a19 : AFun := ⟨35, [.tmp 4, .tmp 5], (.seq (.region false 0 [ml 4, mf 5]) (.seq (.region false 0 [⟨some 8, none, .lit 1 [.int .i64 0] 0 []⟩, mv 6 8]) (.seq (.seq (.region false 0 [mv 9 0, ca 10 39 9 1, nt 11 10, mv 12 11, mvo 13 12 1, ⟨some 14, (some (12, false)), .call 40 [((.s 13), [1])]⟩, nto 15 12 14, pkt 16 12 15]) (.cond (.s 16) (.seq (.region false 0 [mv 17 6, mv 4 17, mf 5]) (.ret false [])) .skip)) (.seq (.seq (.region false 0 [mi 7 0]) (.block 0 l19_0)) (.seq (.region false 0 [mv 34 6, mv 4 34, mt 5]) (.ret false []))))))⟩
/-- loop.example/g00399/spec.CheckPair -/
def a5 : AFun := ⟨66, [.tmp 6, .tmp 7], (.seq (.region false 0 [⟨some 3, none, .bxr 5 (.s 0)⟩, ml 6, mi 7 0]) (.seq (.block 0 (.seq (.region false 0 [lt 11 5 3, ⟨some 12, none, .call 17 [((.s 11), [16, 3, 2, 1, 1])]⟩, nt 13 12, mv 10 13]) (.cond (.s 10) (.seq (.region false 0 [⟨some 14, none, .lit 1 [.int .i64 0] 0 []⟩, mv 6 14, mi 7 1]) (.ret false [])) (.seq (.region false 0 [mv 16 1, ⟨some 17, none, .call 18 [((.s 16), [1]), ((.c (.int .i64 0)), [1]), ((.c (.int .i64 2)), [1])]⟩, nt 18 17, mv 19 18, mvo 20 19 2, ⟨some 21, (some (19, false)), .call 18 [((.s 20), [1]), ((.c (.int .i64 0)), [1]), ((.c (.int .i64 2)), [1])]⟩, nto 22 19 21, pkt 23 19 22, mv 24 23, mvo 25 24 1, mvo 26 24 2, ⟨some 27, (some (24, false)), .bin .eql (.s 25) (.s 26)⟩, pkt 28 24 27, mv 15 28]) (.cond (.s 15) (.seq (.region false 0 [⟨some 29, none, .lit 1 [.int .i64 0] 0 []⟩, mv 6 29, mi 7 2]) (.ret false [])) (.seq (.region false 0 [fa 31 0 3, ld 32 1 31, mv 33 1, ia 34 16 32 33, fa 35 1 34, ld 36 1 35, nt 37 36, mv 38 37, fao 39 38 0 3, ldo 40 38 1 39, mvo 41 38 2, ⟨some 42, (some (38, false)), .ia 16 (.s 40) (.s 41)⟩, fao 43 38 1 42, ldo 44 38 1 43, nto 45 38 44, pkt 46 38 45, mv 30 46]) (.cond (.s 30) (.seq (.region false 0 [⟨some 47, none, .lit 1 [.int .i64 0] 0 []⟩, mv 6 47, mi 7 3]) (.ret false [])) .skip))))))) (.seq (.region true 19 [fa 49 0 3, ld 50 1 49, mv 51 1, ia 52 16 50 51, fa 53 3 52, ld 54 1 53, fa 55 0 3, ld 56 1 55, mv 57 2, ia 58 16 56 57, fa 59 3 58, ld 60 1 59, ca 61 20 60 1, cd 62 19 54 1 61 1, mv 48 62, ex 63 48 0, ex 64 48 1, mv 8 63, mv 9 64]) (.seq (.region false 0 [mv 65 8, mv 6 65, mi 7 0]) (.ret false [])))))⟩
/-- loop.example/g00399/impl.from -/
def a46 : AFun := ⟨15, [.tmp 6], (.seq (.region false 0 [mf 6]) (.seq (.region false 0 [mv 7 0, mv 8 1, ⟨some 9, none, .bin .geq (.s 7) (.s 8)⟩, mv 10 9, mvu 11 10 0, mvu 12 10 2, ⟨some 13, (some (10, true)), .bin .leq (.s 11) (.s 12)⟩, pkf 14 10 13, mv 6 14]) (.ret false [])))⟩
/-- loop.example/g00399/impl.isNode -/
def a26 : AFun := ⟨5, [.tmp 2], (.seq (.region false 0 [mf 2]) (.seq (.region false 0 [mv 3 0, ⟨some 4, none, .call 46 [((.s 3), [1]), ((.c (.int .i64 0)), [1]), ((.c (.int .i64 2)), [1])]⟩, mv 2 4]) (.ret false [])))⟩
def b96_0 : ACode := (.seq (.region false 0 [lss 9 8 7]) (.seq (.cond (.s 9) .skip (.exit 0 false [0, 1, 2, 3, 4, 5, 6, 7, 8, 9, 10, 11, 12, 13, 14, 15, 16, 17, 18])) (.seq (.block 1 (.seq (.region false 0 [mv 10 8, mv 5 10]) (.seq (.region false 0 [mv 11 1, mv 12 0, mv 13 5, ia 14 1 12 13, ld 15 1 14, ⟨some 16, none, .callv (.s 11) [(.s 15)]⟩]) (.cond (.s 16) (.seq (.region false 0 [mv 17 5, mv 4 17]) (.ret false [0, 1, 2, 3, 5, 6, 7, 8, 9, 10, 11, 12, 13, 14, 15, 16, 17, 18])) .skip)))) (.region false 0 [adc 18 8 1, mv 8 18]))))
def d96_0 : List Nat := [2, 3, 4, 5, 6, 9, 10, 11, 12, 13, 14, 15, 16, 17, 18]
def l96_0 : ACode := .loop false d96_0 b96_0
/-- slices.IndexFunc[[]int,int] -/
def a96 : AFun := ⟨19, [.tmp 4], (.seq (.region false 0 [mi 4 0]) (.seq (.seq (.region false 0 [mv 6 0, len 7 6, mi 8 0]) (.block 0 l96_0)) (.seq (.region false 0 [mi 4 (-1)]) (.ret false []))))⟩
/-- slices.ContainsFunc[[]int,int] -/
def a75 : AFun := ⟨9, [.tmp 4], (.seq (.region false 0 [mf 4]) (.seq (.region false 0 [mv 5 0, mv 6 1, ⟨some 7, none, .thru 96 [(.s 5), (.s 6)]⟩, ⟨some 8, none, .bin .geq (.s 7) (.c (.int .i64 0))⟩, mv 4 8]) (.ret false [])))⟩
/-- loop.example/g00399/impl.ImageOk$1 -/
def a77 : AFun := ⟨6, [.tmp 2], (.seq (.region false 0 [mf 2]) (.seq (.region false 0 [mv 3 0, ⟨some 4, none, .call 46 [((.s 3), [1]), ((.c (.int .i64 0)), [1]), ((.c (.int .i64 200)), [1])]⟩, nt 5 4, mv 2 5]) (.ret false [])))⟩
/-- loop.example/g00399/impl.ImageOk -/
def a48 : AFun := ⟨11, [.tmp 2], (.seq (.region false 0 [mf 2]) (.seq (.region false 0 [mv 3 0, len 4 3, ⟨some 5, none, .bin .eql (.s 4) (.c (.int .i64 8))⟩, mv 6 5, mvu 7 6 0, ⟨some 8, (some (6, true)), .call 75 [((.s 7), [1]), ((.c (.fn 77 [])), [1])]⟩, ⟨some 9, (some (6, true)), .un .not (.s 8)⟩, pkf 10 6 9, mv 2 10]) (.ret false [])))⟩
def b116_0 : ACode := (.seq (.region false 0 [lss 9 8 7]) (.seq (.cond (.s 9) .skip (.exit 0 true [0, 1, 2, 3, 4, 5, 6, 7, 8, 9, 10, 11, 12, 13, 14, 15, 16, 17, 18])) (.seq (.block 1 (.seq (.region false 0 [mv 10 8, mv 5 10]) (.seq (.region false 0 [mv 11 1, mv 12 0, mv 13 5, ia 14 1 12 13, ld 15 1 14, ⟨some 16, none, .bin .eql (.s 11) (.s 15)⟩]) (.cond (.s 16) (.seq (.region false 0 [mv 17 5, mv 4 17]) (.ret true [0, 1, 2, 3, 5, 6, 7, 8, 9, 10, 11, 12, 13, 14, 15, 16, 17, 18])) .skip)))) (.region false 0 [adc 18 8 1, mv 8 18]))))
def d116_0 : List Nat := [2, 3, 4, 5, 6, 9, 10, 11, 12, 13, 14, 15, 16, 17, 18]
def l116_0 : ACode := .loop true d116_0 b116_0
/-- slices.Index[[]int,int] -/
def a116 : AFun := ⟨19, [.tmp 4], (.seq (.region false 0 [mi 4 0]) (.seq (.seq (.region false 0 [mv 6 0, len 7 6, mi 8 0]) (.block 0 l116_0)) (.seq (.region false 0 [mi 4 (-1)]) (.ret false []))))⟩
/-- slices.Contains[[]int,int] -/
def a111 : AFun := ⟨9, [.tmp 4], (.seq (.region false 0 [mf 4]) (.seq (.region false 0 [mv 5 0, mv 6 1, cd 7 116 5 1 6 1, ⟨some 8, none, .bin .geq (.s 7) (.c (.int .i64 0))⟩, mv 4 8]) (.ret false [])))⟩
def b100_0 : ACode := (.seq (.region false 0 [lss 8 7 6]) (.seq (.cond (.s 8) .skip (.exit 0 true [1, 2, 3, 4, 5, 6, 7, 8, 9, 10, 11, 12, 13, 14, 15, 16, 17, 18, 19, 20, 21, 22, 23, 24, 25])) (.seq (.block 1 (.seq (.region false 0 [mv 9 7, ia 10 1 5 7, ld 11 1 10, mv 3 9, mv 4 11]) (.seq (.region false 0 [mv 12 4, ⟨some 13, none, .call 46 [((.s 12), [1]), ((.c (.int .i64 1)), [1]), ((.c (.int .i64 100000)), [1])]⟩, nt 14 13, mv 15 14, mvo 16 15 0, mvo 17 15 3, ⟨some 18, (some (15, false)), .slc 1 (.s 16) none (some (.s 17))⟩, mvo 19 15 4, ⟨some 20, (some (15, false)), .call 111 [((.s 18), [1]), ((.s 19), [1])]⟩, pkt 21 15 20]) (.cond (.s 21) (.seq (.region false 0 [mf 2]) (.ret true [0, 1, 3, 4, 5, 6, 7, 8, 9, 10, 11, 12, 13, 14, 15, 16, 17, 18, 19, 20, 21, 22, 23, 24, 25])) .skip)))) (.region false 0 [adc 22 7 1, mv 7 22]))))
def d100_0 : List Nat := [1, 2, 3, 4, 8, 9, 10, 11, 12, 13, 14, 15, 16, 17, 18, 19, 20, 21, 22, 23, 24, 25]
def l100_0 : ACode := .loop true d100_0 b100_0
/-- loop.example/g00399/impl.GensOk -/
def a100 : AFun := ⟨26, [.tmp 2], (.seq (.region false 0 [mf 2]) (.seq (.seq (.region false 0 [mv 5 0, len 6 5, mi 7 0]) (.block 0 l100_0)) (.seq (.region false 0 [mv 23 0, len 24 23, ⟨some 25, none, .bin .leq (.s 24) (.c (.int .i64 12))⟩, mv 2 25]) (.ret false []))))⟩
def b112_0 : ACode := (.seq (.region false 0 [lss 9 8 7]) (.seq (.cond (.s 9) .skip (.exit 0 false [0, 1, 2, 3, 4, 5, 6, 7, 8, 9, 10, 11, 12, 13, 14, 15, 16, 17, 18])) (.seq (.block 1 (.seq (.region false 0 [mv 10 8, mv 5 10]) (.seq (.region false 0 [mv 11 1, mv 12 0, mv 13 5, ia 14 1 12 13, ld 15 1 14, ⟨some 16, none, .callv (.s 11) [(.s 15)]⟩]) (.cond (.s 16) (.seq (.region false 0 [mv 17 5, mv 4 17]) (.ret false [0, 1, 2, 3, 5, 6, 7, 8, 9, 10, 11, 12, 13, 14, 15, 16, 17, 18])) .skip)))) (.region false 0 [adc 18 8 1, mv 8 18]))))
def d112_0 : List Nat := [2, 3, 4, 5, 6, 9, 10, 11, 12, 13, 14, 15, 16, 17, 18]
def l112_0 : ACode := .loop false d112_0 b112_0
/-- slices.IndexFunc[[][]int,[]int] -/
def a112 : AFun := ⟨19, [.tmp 4], (.seq (.region false 0 [mi 4 0]) (.seq (.seq (.region false 0 [mv 6 0, len 7 6, mi 8 0]) (.block 0 l112_0)) (.seq (.region false 0 [mi 4 (-1)]) (.ret false []))))⟩
/-- slices.ContainsFunc[[][]int,[]int] -/
def a101 : AFun := ⟨9, [.tmp 4], (.seq (.region false 0 [mf 4]) (.seq (.region false 0 [mv 5 0, mv 6 1, ⟨some 7, none, .thru 112 [(.s 5), (.s 6)]⟩, ⟨some 8, none, .bin .geq (.s 7) (.c (.int .i64 0))⟩, mv 4 8]) (.ret false [])))⟩
/-- loop.example/g00399/impl.isCell -/
def a47 : AFun := ⟨5, [.tmp 2], (.seq (.region false 0 [mf 2]) (.seq (.region false 0 [mv 3 0, ⟨some 4, none, .call 46 [((.s 3), [1]), ((.c (.int .i64 0)), [1]), ((.c (.int .i64 7)), [1])]⟩, mv 2 4]) (.ret false [])))⟩
def b103_0 : ACode := (.seq (.region false 0 [lss 8 7 6]) (.seq (.cond (.s 8) .skip (.exit 0 true [0, 1, 2, 3, 4, 5, 6, 7, 8, 9, 10, 11, 12, 13, 14, 15, 16, 17, 18, 19, 20, 21, 22, 23, 24, 25, 26, 27, 28])) (.seq (.block 1 (.seq (.region false 0 [mv 9 7, ia 10 1 5 7, ld 11 1 10, mv 3 9, mv 4 11]) (.seq (.region false 0 [mv 12 4, ca 13 47 12 1, nt 14 13, mv 15 14, mvo 16 15 3, gtc 17 15 16 0, mvo 18 15 17, mvu 19 18 0, mvu 20 18 3, ⟨some 21, (some (18, true)), .bin .sub (.s 20) (.c (.int .i64 1))⟩, iau 22 18 1 19 21, ldu 23 18 1 22, mvu 24 18 4, ⟨some 25, (some (18, true)), .bin .geq (.s 23) (.s 24)⟩, pko 26 15 18 25, pkt 27 15 26]) (.cond (.s 27) (.seq (.region false 0 [mf 2]) (.ret true [0, 1, 3, 4, 5, 6, 7, 8, 9, 10, 11, 12, 13, 14, 15, 16, 17, 18, 19, 20, 21, 22, 23, 24, 25, 26, 27, 28])) .skip)))) (.region false 0 [adc 28 7 1, mv 7 28]))))
def d103_0 : List Nat := [1, 2, 3, 4, 8, 9, 10, 11, 12, 13, 14, 15, 16, 17, 18, 19, 20, 21, 22, 23, 24, 25, 26, 27, 28]
def l103_0 : ACode := .loop true d103_0 b103_0
/-- loop.example/g00399/impl.MarksOk -/
def a103 : AFun := ⟨29, [.tmp 2], (.seq (.region false 0 [mf 2]) (.seq (.seq (.region false 0 [mv 5 0, len 6 5, mi 7 0]) (.block 0 l103_0)) (.seq (.region false 0 [mt 2]) (.ret false []))))⟩
/-- loop.example/g00399/impl.marksAll$1 -/
def a102 : AFun := ⟨6, [.tmp 2], (.seq (.region false 0 [mf 2]) (.seq (.region false 0 [mv 3 0, ca 4 103 3 1, nt 5 4, mv 2 5]) (.ret false [])))⟩
/-- loop.example/g00399/impl.marksAll -/
def a92 : AFun := ⟨11, [.tmp 2], (.seq (.region false 0 [mf 2]) (.seq (.region false 0 [mv 3 0, len 4 3, ⟨some 5, none, .bin .eql (.s 4) (.c (.int .i64 3))⟩, mv 6 5, mvu 7 6 0, ⟨some 8, (some (6, true)), .call 101 [((.s 7), [1]), ((.c (.fn 102 [])), [1])]⟩, ⟨some 9, (some (6, true)), .un .not (.s 8)⟩, pkf 10 6 9, mv 2 10]) (.ret false [])))⟩
/-- loop.example/g00399/impl.MetaOk -/
def a91 : AFun := ⟨31, [.tmp 2], (.seq (.region false 0 [⟨some 1, none, .bxr 6 (.s 0)⟩, mf 2]) (.seq (.region false 0 [fa 3 0 1, ld 4 1 3, ca 5 100 4 1, mv 6 5, fau 7 6 0 1, ldu 8 6 1 7, ⟨some 9, (some (6, true)), .len (.s 8)⟩, ⟨some 10, (some (6, true)), .bin .gtr (.s 9) (.c (.int .i64 0))⟩, pkf 11 6 10, mv 12 11, fau 13 12 1 1, ldu 14 12 1 13, ⟨some 15, (some (12, true)), .call 92 [((.s 14), [1])]⟩, pkf 16 12 15, mv 17 16, fau 18 17 5 1, ldu 19 17 1 18, ⟨some 20, (some (17, true)), .call 46 [((.s 19), [1]), ((.c (.int .i64 0)), [1]), ((.c (.int .i64 200)), [1])]⟩, pkf 21 17 20, mv 22 21, fau 23 22 3 1, ldu 24 22 1 23, mvu 25 22 24, fau 26 25 4 1, ldu 27 25 1 26, ⟨some 28, (some (22, true)), .pick (.s 25) (.s 27) (.c (.bool false))⟩, ⟨some 29, (some (22, true)), .un .not (.s 28)⟩, pkf 30 22 29, mv 2 30]) (.ret false [])))⟩
def b124_0 : ACode := (.seq (.seq (.region false 0 [mv 13 9, lsc 14 13 5, mv 15 14, mvu 16 15 1, mvu 17 15 0, ⟨some 18, (some (15, true)), .len (.s 17)⟩, mvu 19 15 9, ⟨some 20, (some (15, true)), .bin .sub (.s 18) (.s 19)⟩, ⟨some 21, (some (15, true)), .bin .lss (.s 16) (.s 20)⟩, pkf 22 15 21]) (.cond (.s 22) .skip (.exit 0 true [0, 1, 2, 3, 4, 5, 6, 7, 8, 9, 10, 11, 12, 13, 14, 15, 16, 17, 18, 19, 20, 21, 22, 23, 24, 25, 26, 27, 28, 29, 30, 31, 32, 33, 34, 35, 36, 37, 38, 39, 40, 41, 42, 43, 44, 45, 46, 47, 48, 49, 50, 51, 52, 53, 54, 55, 56]))) (.seq (.block 1 (.seq (.region false 0 [mv 25 0, mv 26 1, mv 27 9, ads 28 26 27, ia 29 1 25 28, ld 30 1 29, ⟨some 31, none, .conv .i64 (.s 30)⟩, mv 10 31]) (.seq (.region false 0 [mv 32 7, mv 33 10, ⟨some 34, none, .bin .rem (.s 33) (.c (.int .i64 128))⟩, mv 35 8, ⟨some 36, none, .bin .mul (.s 34) (.s 35)⟩, ads 37 32 36, mv 7 37]) (.seq (.region false 0 [mv 38 8, ⟨some 39, none, .bin .mul (.s 38) (.c (.int .i64 128))⟩, mv 8 39]) (.seq (.seq (.region false 0 [mv 40 10, ⟨some 41, none, .bin .geq (.s 40) (.c (.int .i64 128))⟩]) (.cond (.s 41) (.exit 1 false []) .skip)) (.seq (.seq (.region false 0 [mv 42 7, ⟨some 43, none, .bin .gtr (.s 42) (.c (.int .i64 2147483647))⟩, mv 44 43, mvo 45 44 10, ⟨some 46, (some (44, false)), .bin .eql (.s 45) (.c (.int .i64 0))⟩, mvo 47 44 46, mvu 48 47 9, ⟨some 49, (some (47, true)), .bin .gtr (.s 48) (.c (.int .i64 0))⟩, pko 50 44 47 49, pkt 51 44 50]) (.cond (.s 51) (.exit 0 true [0, 1, 2, 3, 4, 5, 6, 7, 8, 9, 10, 11, 12, 13, 14, 15, 16, 17, 18, 19, 20, 21, 22, 23, 24, 25, 26, 27, 28, 29, 30, 31, 32, 33, 34, 35, 36, 37, 38, 39, 40, 41, 42, 43, 44, 45, 46, 47, 48, 49, 50, 51, 52, 53, 54, 55, 56]) .skip)) (.seq (.region false 0 [mv 52 7, mv 53 1, mv 54 9, ads 55 53 54, adc 56 55 1, mv 4 52, mv 5 56, mt 6]) (.ret true [0, 1, 2, 3, 7, 8, 9, 10, 11, 12, 13, 14, 15, 16, 17, 18, 19, 20, 21, 22, 23, 24, 25, 26, 27, 28, 29, 30, 31, 32, 33, 34, 35, 36, 37, 38, 39, 40, 41, 42, 43, 44, 45, 46, 47, 48, 49, 50, 51, 52, 53, 54, 55, 56])))))))) (.region false 0 [mv 23 9, adc 24 23 1, mv 9 24])))
def d124_0 : List Nat := [2, 3, 4, 5, 6, 10, 11, 12, 13, 14, 15, 16, 17, 18, 19, 20, 21, 22, 23, 24, 25, 26, 27, 28, 29, 30, 31, 32, 33, 34, 35, 36, 37, 38, 39, 40, 41, 42, 43, 44, 45, 46, 47, 48, 49, 50, 51, 52, 53, 54, 55, 56]
def l124_0 : ACode := .loop true d124_0 b124_0
/-- loop.example/g00399/impl.GetNum -/
def a124 : AFun := ⟨57, [.tmp 4, .tmp 5, .tmp 6], (.seq (.region false 0 [mi 4 0, mi 5 0, mf 6]) (.seq (.seq (.region false 0 [mv 11 1, lsc 12 11 0]) (.cond (.s 12) (.seq (.region false 0 [mi 4 0, mi 5 0, mf 6]) (.ret false [])) .skip)) (.seq (.region false 0 [mi 7 0]) (.seq (.region false 0 [mi 8 1]) (.seq (.seq (.region false 0 [mi 9 0]) (.block 0 l124_0)) (.seq (.region false 0 [mi 4 0, mi 5 0, mf 6]) (.ret false [])))))))⟩
/-- (*loop.example/g00399/impl.reader).num -/
def a121 : AFun := ⟨33, [.tmp 2], (.seq (.region false 0 [mi 2 0]) (.seq (.seq (.region false 0 [mv 6 0, ⟨some 7, none, .nck (.s 6)⟩, fa 8 2 7, ld 9 1 8, nt 10 9]) (.cond (.s 10) (.seq (.region false 0 [mi 2 0]) (.ret false [])) .skip)) (.seq (.region true 16 [mv 12 0, ⟨some 13, none, .nck (.s 12)⟩, fa 14 0 13, ld 15 1 14, mv 16 0, ⟨some 17, none, .nck (.s 16)⟩, fa 18 1 17, ld 19 1 18, cd 20 124 15 1 19 1, mv 11 20, ex 21 11 0, ex 22 11 1, ex 23 11 2, mv 3 21, mv 4 22, mv 5 23]) (.seq (.region false 0 [mv 24 0, mv 25 0, mv 26 4, mv 27 5, ⟨some 28, none, .nck (.s 24)⟩, fa 29 1 28, sto 1 29 26, ⟨some 30, none, .nck (.s 25)⟩, fa 31 2 30, sto 1 31 27]) (.seq (.region false 0 [mv 32 3, mv 2 32]) (.ret false []))))))⟩
def b120_0 : ACode := (.seq (.seq (.region false 0 [mv 10 5, mv 11 4, lss 12 10 11, mv 13 12, mvu 14 13 0, ⟨some 15, (some (13, true)), .nck (.s 14)⟩, fau 16 13 2 15, ldu 17 13 1 16, pkf 18 13 17]) (.cond (.s 18) .skip (.exit 0 true [0, 1, 2, 4, 5, 6, 7, 8, 9, 10, 11, 12, 13, 14, 15, 16, 17, 18, 19, 20, 21, 22, 23, 24, 25, 26, 27]))) (.seq (.block 1 (.seq (.region false 0 [mv 21 0, ⟨some 22, none, .thru 121 [(.s 21)]⟩, mv 6 22]) (.region false 0 [mv 23 3, mv 24 6, ⟨some 25, none, .lit 1 [.int .i64 0] 1 [(0, 1, (.s 24))]⟩, ap 26 1 8 23 25, mv 3 26]))) (.region false 0 [mv 19 5, adc 20 19 1, mv 5 20])))
def d120_0 : List Nat := [1, 2, 6, 7, 8, 9, 10, 11, 12, 13, 14, 15, 16, 17, 18, 19, 20, 21, 22, 23, 24, 25, 26, 27]
def l120_0 : ACode := .loop true d120_0 b120_0
/-- (*loop.example/g00399/impl.reader).list -/
def a120 : AFun := ⟨28, [.tmp 2], (.seq (.region false 0 [ml 2]) (.seq (.region false 0 [⟨some 7, none, .lit 1 [.int .i64 0] 0 []⟩, mv 3 7]) (.seq (.region false 0 [mv 8 0, ⟨some 9, none, .thru 121 [(.s 8)]⟩, mv 4 9]) (.seq (.seq (.region false 0 [mi 5 0]) (.block 0 l120_0)) (.seq (.region false 0 [mv 27 3, mv 2 27]) (.ret false []))))))⟩
def b80_0 : ACode := (.seq (.seq (.region false 0 [mv 11 0, ⟨some 12, none, .bin .gtr (.s 11) (.c (.int .i64 127))⟩]) (.cond (.s 12) .skip (.exit 0 true [1, 2, 4, 5, 6, 7, 8, 9, 10, 11, 12, 13, 14, 15, 16, 17, 18, 19, 20, 21, 22, 23, 24, 25, 26]))) (.block 1 (.seq (.region false 0 [mv 13 3, mv 14 0, ⟨some 15, none, .bin .rem (.s 14) (.c (.int .i64 128))⟩, adc 16 15 128, ⟨some 17, none, .conv .u8 (.s 16)⟩, ⟨some 18, none, .lit 1 [.int .u8 0] 1 [(0, 1, (.s 17))]⟩, ap 19 1 1 13 18, mv 3 19]) (.region false 0 [mv 20 0, ⟨some 21, none, .bin .quo (.s 20) (.c (.int .i64 128))⟩, mv 0 21]))))
def d80_0 : List Nat := [1, 2, 4, 5, 6, 7, 8, 9, 10, 11, 12, 13, 14, 15, 16, 17, 18, 19, 20, 21, 22, 23, 24, 25, 26]
def l80_0 : ACode := .loop true d80_0 b80_0
/-- loop.example/g00399/impl.PutNum -/
def a80 : AFun := ⟨27, [.tmp 2], (.seq (.region false 0 [ml 2]) (.seq (.seq (.region false 0 [mv 4 0, lsc 5 4 0, mv 6 5, mvo 7 6 0, gtc 8 6 7 2147483647, pkt 9 6 8]) (.cond (.s 9) (.seq (.region false 0 [ml 2]) (.ret false [])) .skip)) (.seq (.region false 0 [⟨some 10, none, .lit 1 [.int .u8 0] 0 []⟩, mv 3 10]) (.seq (.block 0 l80_0) (.seq (.region false 0 [mv 22 3, mv 23 0, ⟨some 24, none, .conv .u8 (.s 23)⟩, ⟨some 25, none, .lit 1 [.int .u8 0] 1 [(0, 1, (.s 24))]⟩, ap 26 1 1 22 25, mv 2 26]) (.ret false []))))))⟩
def b126_0 : ACode := (.seq (.region false 0 [lss 10 9 8]) (.seq (.cond (.s 10) .skip (.exit 0 true [0, 1, 2, 4, 5, 6, 7, 8, 9, 10, 11, 12, 13, 14, 15, 16, 17, 18])) (.seq (.block 1 (.seq (.region false 0 [ia 11 1 7 9, ld 12 1 11, mv 5 12]) (.region false 0 [mv 13 3, mv 14 5, ca 15 80 14 1, ap 16 1 1 13 15, mv 3 16]))) (.region false 0 [adc 17 9 1, mv 9 17]))))
def d126_0 : List Nat := [0, 1, 2, 4, 5, 6, 10, 11, 12, 13, 14, 15, 16, 17, 18]
def l126_0 : ACode := .loop true d126_0 b126_0
/-- loop.example/g00399/impl.putNums -/
def a126 : AFun := ⟨19, [.tmp 2], (.seq (.region false 0 [ml 2]) (.seq (.region false 0 [⟨some 6, none, .lit 1 [.int .u8 0] 0 []⟩, mv 3 6]) (.seq (.seq (.region false 0 [mv 7 0, len 8 7, mi 9 0]) (.block 0 l126_0)) (.seq (.region false 0 [mv 18 3, mv 2 18]) (.ret false [])))))⟩
/-- loop.example/g00399/impl.putList -/
def a125 : AFun := ⟨10, [.tmp 2], (.seq (.region false 0 [ml 2]) (.seq (.region false 0 [mv 3 0, len 4 3, ⟨some 5, none, .lit 1 [.int .i64 0] 1 [(0, 1, (.s 4))]⟩, ca 6 126 5 1, mv 7 0, ca 8 126 7 1, ap 9 1 1 6 8, mv 2 9]) (.ret false [])))⟩
/-- loop.example/g00399/impl.flag -/
def a127 : AFun := ⟨7, [.tmp 4], (.seq (.region false 0 [mi 4 0]) (.seq (.seq (.region false 0 [mv 5 0]) (.cond (.s 5) (.seq (.region false 0 [mv 6 1, mv 4 6]) (.ret false [])) .skip)) (.seq (.region false 0 [mi 4 0]) (.ret false []))))⟩
def b122_0 : ACode := (.seq (.region false 0 [lss 16 15 14]) (.seq (.cond (.s 16) .skip (.exit 0 true [0, 2, 4, 5, 6, 7, 8, 9, 10, 11, 12, 13, 14, 15, 16, 17, 18, 19, 20, 21, 22, 23, 24, 25, 26, 27, 28, 29, 30, 31, 32, 33, 34, 35, 36, 37, 38, 39, 40])) (.seq (.block 1 (.seq (.region false 0 [ia 17 1 13 15, ld 18 1 17, mv 5 18]) (.region false 0 [mv 19 3, mv 20 5, ca 21 125 20 1, ap 22 1 1 19 21, mv 3 22]))) (.region false 0 [adc 23 15 1, mv 15 23]))))
def d122_0 : List Nat := [0, 2, 4, 5, 6, 7, 8, 9, 10, 11, 12, 16, 17, 18, 19, 20, 21, 22, 23, 24, 25, 26, 27, 28, 29, 30, 31, 32, 33, 34, 35, 36, 37, 38, 39, 40]
def l122_0 : ACode := .loop true d122_0 b122_0
/-- loop.example/g00399/impl.MetaBytes -/
def a122 : AFun := ⟨41, [.tmp 2], (.seq (.region false 0 [⟨some 1, none, .bxr 6 (.s 0)⟩, ml 2]) (.seq (.seq (.region false 0 [lt 6 6 1, ⟨some 7, none, .call 91 [((.s 6), [1, 1, 1, 1, 1, 1])]⟩, nt 8 7]) (.cond (.s 8) (.seq (.region false 0 [ml 2]) (.ret false [])) .skip)) (.seq (.region false 0 [fa 9 0 1, ld 10 1 9, ca 11 125 10 1, mv 3 11]) (.seq (.seq (.region false 0 [fa 12 1 1, ld 13 1 12, len 14 13, mi 15 0]) (.block 0 l122_0)) (.seq (.region true 16 [mv 24 3, fa 25 2 1, ld 26 1 25, ⟨some 27, none, .call 127 [((.s 26), [1]), ((.c (.int .i64 1)), [1])]⟩, fa 28 3 1, ld 29 1 28, ⟨some 30, none, .call 127 [((.s 29), [1]), ((.c (.int .i64 2)), [1])]⟩, ads 31 27 30, fa 32 4 1, ld 33 1 32, ⟨some 34, none, .call 127 [((.s 33), [1]), ((.c (.int .i64 4)), [1])]⟩, ads 35 31 34, fa 36 5 1, ld 37 1 36, ⟨some 38, none, .lit 1 [.int .i64 0] 2 [(0, 1, (.s 35)), (1, 1, (.s 37))]⟩, ca 39 126 38 1, ap 40 1 1 24 39, mv 2 40]) (.ret false []))))))⟩
/-- bytes.Equal -/
def a118 : AFun := ⟨10, [.tmp 4], (.seq (.region false 0 [mf 4]) (.seq (.region false 0 [mv 5 0, ⟨some 6, none, .b2s (.s 5)⟩, mv 7 1, ⟨some 8, none, .b2s (.s 7)⟩, ⟨some 9, none, .bin .eql (.s 6) (.s 8)⟩, mv 4 9]) (.ret false [])))⟩
def b117_0 : ACode := (.seq (.region false 0 [lsc 17 16 3]) (.seq (.cond (.s 17) .skip (.exit 0 true (but 64 [0, 2, 4, 5]))) (.seq (.block 1 (.seq (.region false 0 [mv 18 4, ⟨some 19, none, .lend 120 (.s 18) []⟩, mv 6 19]) (.region false 0 [fa 20 1 5, ld 21 1 20, mv 22 6, ⟨some 23, none, .lit 1 [.nil] 1 [(0, 1, (.s 22))]⟩, ap 24 1 24 21 23, fa 25 1 5, sto 1 25 24]))) (.region false 0 [adc 26 16 1, mv 16 26]))))
def d117_0 : List Nat := (but 64 [0, 2, 4, 5, 16])
def l117_0 : ACode := .loop true d117_0 b117_0
/-- loop.example/g00399/impl.MetaOf -/
def a117 : AFun := ⟨64, [.cell 2 6 true, .tmp 3], (.seq (.region false 0 [⟨some 2, none, .alc [.nil, .nil, .bool false, .bool false, .bool false, .int .i64 0]⟩, mf 3]) (.seq (.region false 0 [mv 9 0, ⟨some 10, none, .bld [.nil, .int .i64 0, .bool false] [(0, 1, (.s 9)), (2, 1, (.c (.bool true)))]⟩, bx 11 3 10, mv 4 11]) (.seq (.region false 0 [⟨some 12, none, .bld [.nil, .nil, .bool false, .bool false, .bool false, .int .i64 0] []⟩, ⟨some 5, none, .alc [.nil, .nil, .bool false, .bool false, .bool false, .int .i64 0]⟩, sto 6 5 12]) (.seq (.region false 0 [mv 13 4, ⟨some 14, none, .lend 120 (.s 13) []⟩, fa 15 0 5, sto 1 15 14]) (.seq (.seq (.region false 0 [mi 16 0]) (.block 0 l117_0)) (.seq (.region false 0 [mv 27 4, ⟨some 28, none, .thru 121 [(.s 27)]⟩, mv 7 28]) (.seq (.region false 0 [mv 29 4, ⟨some 30, none, .thru 121 [(.s 29)]⟩, fa 31 5 5, sto 1 31 30]) (.seq (.region false 0 [mv 32 7, ⟨some 33, none, .bin .and (.s 32) (.c (.int .i64 1))⟩, ⟨some 34, none, .bin .neq (.s 33) (.c (.int .i64 0))⟩, mv 35 7, ⟨some 36, none, .bin .and (.s 35) (.c (.int .i64 2))⟩, ⟨some 37, none, .bin .neq (.s 36) (.c (.int .i64 0))⟩, mv 38 7, ⟨some 39, none, .bin .and (.s 38) (.c (.int .i64 4))⟩, ⟨some 40, none, .bin .neq (.s 39) (.c (.int .i64 0))⟩, fa 41 2 5, sto 1 41 34, fa 42 3 5, sto 1 42 37, fa 43 4 5, sto 1 43 40]) (.seq (.region false 0 [lt 44 6 5, ⟨some 45, none, .call 122 [((.s 44), [1, 1, 1, 1, 1, 1])]⟩, mv 8 45]) (.seq (.seq (.region false 0 [mv 46 4, ⟨some 47, none, .nck (.s 46)⟩, fa 48 2 47, ld 49 1 48, nt 50 49, mv 51 50, mvo 52 51 8, ⟨some 53, (some (51, false)), .len (.s 52)⟩, ⟨some 54, (some (51, false)), .bin .eql (.s 53) (.c (.int .i64 0))⟩, pkt 55 51 54, mv 56 55, mvo 57 56 8, mvo 58 56 0, ⟨some 59, (some (56, false)), .call 118 [((.s 57), [1]), ((.s 58), [1])]⟩, nto 60 56 59, pkt 61 56 60]) (.cond (.s 61) (.seq (.region false 0 [⟨some 62, none, .bld [.nil, .nil, .bool false, .bool false, .bool false, .int .i64 0] []⟩, sto 6 2 62, mf 3]) (.ret false [])) .skip)) (.seq (.region false 0 [lt 63 6 5, sto 6 2 63, mt 3]) (.ret false []))))))))))))⟩
/-- loop.example/g00399/impl.four -/
def a123 : AFun := ⟨15, [.tmp 2], (.seq (.region false 0 [ml 2]) (.seq (.region false 0 [mv 3 0, ⟨some 4, none, .conv .u8 (.s 3)⟩, mv 5 0, ⟨some 6, none, .bin .shr (.s 5) (.c (.int .u64 8))⟩, ⟨some 7, none, .conv .u8 (.s 6)⟩, mv 8 0, ⟨some 9, none, .bin .shr (.s 8) (.c (.int .u64 16))⟩, ⟨some 10, none, .conv .u8 (.s 9)⟩, mv 11 0, ⟨some 12, none, .bin .shr (.s 11) (.c (.int .u64 24))⟩, ⟨some 13, none, .conv .u8 (.s 12)⟩, ⟨some 14, none, .lit 1 [.int .u8 0] 4 [(0, 1, (.s 4)), (1, 1, (.s 7)), (2, 1, (.s 10)), (3, 1, (.s 13))]⟩, mv 2 14]) (.ret false [])))⟩
/-- loop.example/g00399/impl.slotBytes -/
def a119 : AFun := ⟨28, [.tmp 4], (.seq (.region false 0 [⟨some 2, none, .bxr 6 (.s 0)⟩, ml 4]) (.seq (.region false 0 [lt 7 6 2, ⟨some 8, none, .call 122 [((.s 7), [1, 1, 1, 1, 1, 1])]⟩, mv 5 8]) (.seq (.region false 0 [mv 9 1, ca 10 123 9 1, mv 11 5, len 12 11, ⟨some 13, none, .conv .u8 (.s 12)⟩, ⟨some 14, none, .lit 1 [.int .u8 0] 1 [(0, 1, (.s 13))]⟩, ap 15 1 1 10 14, mv 6 15]) (.seq (.region false 0 [mv 16 6, mv 17 5, ap 18 1 1 16 17, mv 6 18]) (.seq (.region false 0 [mv 19 6, mv 20 6, len 21 20, ⟨some 22, none, .bin .sub (.c (.int .i64 156)) (.s 21)⟩, ⟨some 23, none, .apm 1 1 [.int .u8 0] (.s 19) (.s 22)⟩, mv 6 23]) (.seq (.region false 0 [mv 24 6, mv 25 1, ca 26 123 25 1, ap 27 1 1 24 26, mv 4 27]) (.ret false [])))))))⟩
/-- loop.example/g00399/impl.SlotOf -/
def a113 : AFun := ⟨68, [.cell 2 6 true, .tmp 3, .tmp 4], (.seq (.region false 0 [⟨some 2, none, .alc [.nil, .nil, .bool false, .bool false, .bool false, .int .i64 0]⟩, mi 3 0, mf 4]) (.seq (.seq (.region false 0 [mv 9 0, len 10 9, ⟨some 11, none, .bin .neq (.s 10) (.c (.int .i64 160))⟩]) (.cond (.s 11) (.seq (.region false 0 [⟨some 12, none, .bld [.nil, .nil, .bool false, .bool false, .bool false, .int .i64 0] []⟩, sto 6 2 12, mi 3 0, mf 4]) (.ret false [])) .skip)) (.seq (.region true 23 [mv 13 0, ⟨some 14, none, .ia 1 (.s 13) (.c (.int .i64 0))⟩, ld 15 1 14, ⟨some 16, none, .conv .i64 (.s 15)⟩, mv 17 0, ⟨some 18, none, .ia 1 (.s 17) (.c (.int .i64 1))⟩, ld 19 1 18, ⟨some 20, none, .conv .i64 (.s 19)⟩, ⟨some 21, none, .bin .shl (.s 20) (.c (.int .u64 8))⟩, ⟨some 22, none, .bin .or (.s 16) (.s 21)⟩, mv 23 0, ⟨some 24, none, .ia 1 (.s 23) (.c (.int .i64 2))⟩, ld 25 1 24, ⟨some 26, none, .conv .i64 (.s 25)⟩, ⟨some 27, none, .bin .shl (.s 26) (.c (.int .u64 16))⟩, ⟨some 28, none, .bin .or (.s 22) (.s 27)⟩, mv 29 0, ⟨some 30, none, .ia 1 (.s 29) (.c (.int .i64 3))⟩, ld 31 1 30, ⟨some 32, none, .conv .i64 (.s 31)⟩, ⟨some 33, none, .bin .shl (.s 32) (.c (.int .u64 24))⟩, ⟨some 34, none, .bin .or (.s 28) (.s 33)⟩, mv 5 34]) (.seq (.region false 0 [mv 35 0, ⟨some 36, none, .ia 1 (.s 35) (.c (.int .i64 4))⟩, ld 37 1 36, ⟨some 38, none, .conv .i64 (.s 37)⟩, mv 6 38]) (.seq (.seq (.region false 0 [mv 39 5, ⟨some 40, none, .call 46 [((.s 39), [1]), ((.c (.int .i64 1)), [1]), ((.c (.int .i64 1000000)), [1])]⟩, nt 41 40, mv 42 41, mvo 43 42 6, gtc 44 42 43 151, pkt 45 42 44]) (.cond (.s 45) (.seq (.region false 0 [⟨some 46, none, .bld [.nil, .nil, .bool false, .bool false, .bool false, .int .i64 0] []⟩, sto 6 2 46, mi 3 0, mf 4]) (.ret false [])) .skip)) (.seq (.region false 0 [mv 48 0, mv 49 6, ⟨some 50, none, .bin .add (.c (.int .i64 5)) (.s 49)⟩, ⟨some 51, none, .slc 1 (.s 48) (some (.c (.int .i64 5))) (some (.s 50))⟩, ca 52 117 51 1, mv 47 52, ex 53 47 0, ex 54 47 1, ⟨some 7, none, .alc [.nil, .nil, .bool false, .bool false, .bool false, .int .i64 0]⟩, sto 6 7 53, mv 8 54]) (.seq (.seq (.region false 0 [mv 55 8, nt 56 55, mv 57 56, ⟨some 58, (some (57, false)), .ld 6 true (.s 7)⟩, mvo 59 57 5, ⟨some 60, (some (57, false)), .call 119 [((.s 58), [1, 1, 1, 1, 1, 1]), ((.s 59), [1])]⟩, mvo 61 57 0, ⟨some 62, (some (57, false)), .call 118 [((.s 60), [1]), ((.s 61), [1])]⟩, nto 63 57 62, pkt 64 57 63]) (.cond (.s 64) (.seq (.region false 0 [⟨some 65, none, .bld [.nil, .nil, .bool false, .bool false, .bool false, .int .i64 0] []⟩, sto 6 2 65, mi 3 0, mf 4]) (.ret false [])) .skip)) (.seq (.region false 0 [lt 66 6 7, mv 67 5, sto 6 2 66, mv 3 67, mt 4]) (.ret false [])))))))))⟩
/-- loop.example/g00399/impl.latest -/
def a104 : AFun := ⟨40, [.cell 2 6 true, .tmp 3, .tmp 4], (.seq (.region false 0 [⟨some 1, none, .bxr 2 (.s 0)⟩, ⟨some 2, none, .alc [.nil, .nil, .bool false, .bool false, .bool false, .int .i64 0]⟩, mi 3 0, mf 4]) (.seq (.region false 0 [fa 12 0 1, ld 13 1 12, ca 14 113 13 1, mv 11 14, ex 15 11 0, ex 16 11 1, ex 17 11 2, ⟨some 5, none, .alc [.nil, .nil, .bool false, .bool false, .bool false, .int .i64 0]⟩, sto 6 5 15, mv 6 16, mv 7 17]) (.seq (.region false 0 [fa 19 1 1, ld 20 1 19, ca 21 113 20 1, mv 18 21, ex 22 18 0, ex 23 18 1, ex 24 18 2, ⟨some 8, none, .alc [.nil, .nil, .bool false, .bool false, .bool false, .int .i64 0]⟩, sto 6 8 22, mv 9 23, mv 10 24]) (.seq (.seq (.region false 0 [mv 25 10, mv 26 25, mvu 27 26 7, ⟨some 28, (some (26, true)), .un .not (.s 27)⟩, mvu 29 26 28, mvo 30 29 9, mvo 31 29 6, ⟨some 32, (some (29, false)), .bin .gtr (.s 30) (.s 31)⟩, ⟨some 33, (some (26, true)), .pick (.s 29) (.c (.bool true)) (.s 32)⟩, pkf 34 26 33]) (.cond (.s 34) (.seq (.region false 0 [lt 35 6 8, mv 36 9, sto 6 2 35, mv 3 36, mf 4]) (.ret false [])) .skip)) (.seq (.region false 0 [lt 37 6 5, mv 38 6, mv 39 7, sto 6 2 37, mv 3 38, mv 4 39]) (.ret false []))))))⟩
/-- loop.example/g00399/impl.SlotGet -/
def a93 : AFun := ⟨18, [.cell 2 6 true, .tmp 3, .tmp 4], (.seq (.region false 0 [⟨some 1, none, .bxr 2 (.s 0)⟩, ⟨some 2, none, .alc [.nil, .nil, .bool false, .bool false, .bool false, .int .i64 0]⟩, mi 3 0, mf 4]) (.seq (.region false 0 [lt 9 2 1, ⟨some 10, none, .call 104 [((.s 9), [1, 1])]⟩, mv 8 10, ex 11 8 0, ex 12 8 1, ex 13 8 2, ⟨some 5, none, .alc [.nil, .nil, .bool false, .bool false, .bool false, .int .i64 0]⟩, sto 6 5 11, mv 6 12, mv 7 13]) (.seq (.region false 0 [lt 14 6 5, mv 15 6, mv 16 6, ⟨some 17, none, .bin .gtr (.s 16) (.c (.int .i64 0))⟩, sto 6 2 14, mv 3 15, mv 4 17]) (.ret false []))))⟩
def b105_0 : ACode := (.seq (.region false 0 [lss 14 13 12]) (.seq (.cond (.s 14) .skip (.exit 0 true [0, 1, 2, 3, 4, 5, 6, 7, 8, 9, 10, 11, 12, 13, 14, 15, 16, 17, 18, 19, 20, 21, 22, 23, 24, 25])) (.seq (.block 1 (.seq (.region false 0 [mv 15 13, mv 5 15]) (.seq (.region true 9 [mv 16 0, mv 17 5, ia 18 1 16 17, ld 19 1 18, mv 20 1, mv 21 5, ia 22 1 20 21, ld 23 1 22, nes 24 19 23]) (.cond (.s 24) (.seq (.region false 0 [mf 4]) (.ret true [0, 1, 2, 3, 5, 6, 7, 8, 9, 10, 11, 12, 13, 14, 15, 16, 17, 18, 19, 20, 21, 22, 23, 24, 25])) .skip)))) (.region false 0 [adc 25 13 1, mv 13 25]))))
def d105_0 : List Nat := [2, 3, 4, 5, 6, 7, 8, 9, 10, 11, 14, 15, 16, 17, 18, 19, 20, 21, 22, 23, 24, 25]
def l105_0 : ACode := .loop true d105_0 b105_0
/-- slices.Equal[[]int,int] -/
def a105 : AFun := ⟨26, [.tmp 4], (.seq (.region false 0 [mf 4]) (.seq (.seq (.region false 0 [mv 6 0, len 7 6, mv 8 1, len 9 8, nes 10 7 9]) (.cond (.s 10) (.seq (.region false 0 [mf 4]) (.ret false [])) .skip)) (.seq (.seq (.region false 0 [mv 11 0, len 12 11, mi 13 0]) (.block 0 l105_0)) (.seq (.region false 0 [mt 4]) (.ret false [])))))⟩
def b106_0 : ACode := (.seq (.region false 0 [lss 18 17 16]) (.seq (.cond (.s 18) .skip (.exit 0 false [0, 1, 2, 3, 4, 5, 6, 7, 8, 9, 10, 11, 12, 13, 14, 15, 16, 17, 18, 19, 20, 21, 22, 23, 24, 25, 26, 27, 28, 29, 30, 31])) (.seq (.block 1 (.seq (.region false 0 [mv 19 17, ia 20 1 15 17, ld 21 1 20, mv 7 19, mv 8 21]) (.seq (.region false 0 [mv 22 1, mv 23 7, ia 24 1 22 23, ld 25 1 24, mv 9 25]) (.seq (.region false 0 [mv 26 2, mv 27 8, mv 28 9, ⟨some 29, none, .callv (.s 26) [(.s 27), (.s 28)]⟩, nt 30 29]) (.cond (.s 30) (.seq (.region false 0 [mf 6]) (.ret false [0, 1, 2, 3, 4, 5, 7, 8, 9, 10, 11, 12, 13, 14, 15, 16, 17, 18, 19, 20, 21, 22, 23, 24, 25, 26, 27, 28, 29, 30, 31])) .skip))))) (.region false 0 [adc 31 17 1, mv 17 31]))))
def d106_0 : List Nat := [0, 3, 4, 5, 6, 7, 8, 9, 10, 11, 12, 13, 14, 18, 19, 20, 21, 22, 23, 24, 25, 26, 27, 28, 29, 30, 31]
def l106_0 : ACode := .loop false d106_0 b106_0
/-- slices.EqualFunc[[][]int,[][]int,[]int,[]int] -/
def a106 : AFun := ⟨32, [.tmp 6], (.seq (.region false 0 [mf 6]) (.seq (.seq (.region false 0 [mv 10 0, len 11 10, mv 12 1, len 13 12, nes 14 11 13]) (.cond (.s 14) (.seq (.region false 0 [mf 6]) (.ret false [])) .skip)) (.seq (.seq (.region false 0 [mv 15 0, len 16 15, mi 17 0]) (.block 0 l106_0)) (.seq (.region false 0 [mt 6]) (.ret false [])))))⟩
/-- loop.example/g00399/impl.SameMeta -/
def a94 : AFun := ⟨45, [.tmp 4], (.seq (.region false 0 [⟨some 2, none, .bxr 6 (.s 0)⟩, ⟨some 3, none, .bxr 6 (.s 1)⟩, mf 4]) (.seq (.region false 0 [fa 5 0 2, ld 6 1 5, fa 7 0 3, ld 8 1 7, cd 9 105 6 1 8 1, mv 10 9, fau 11 10 1 2, ldu 12 10 1 11, fau 13 10 1 3, ldu 14 10 1 13, ⟨some 15, (some (10, true)), .call 106 [((.s 12), [1]), ((.s 14), [1]), ((.c (.fn 105 [])), [1])]⟩, pkf 16 10 15, mv 17 16, fau 18 17 2 2, ldu 19 17 1 18, fau 20 17 2 3, ldu 21 17 1 20, ⟨some 22, (some (17, true)), .beq false (.s 19) (.s 21)⟩, pkf 23 17 22, mv 24 23, fau 25 24 3 2, ldu 26 24 1 25, fau 27 24 3 3, ldu 28 24 1 27, ⟨some 29, (some (24, true)), .beq false (.s 26) (.s 28)⟩, pkf 30 24 29, mv 31 30, fau 32 31 4 2, ldu 33 31 1 32, fau 34 31 4 3, ldu 35 31 1 34, ⟨some 36, (some (31, true)), .beq false (.s 33) (.s 35)⟩, pkf 37 31 36, mv 38 37, fau 39 38 5 2, ldu 40 38 1 39, fau 41 38 5 3, ldu 42 38 1 41, ⟨some 43, (some (38, true)), .bin .eql (.s 40) (.s 42)⟩, pkf 44 38 43, mv 4 44]) (.ret false [])))⟩
/-- loop.example/g00399/impl.isWrite -/
def a95 : AFun := ⟨5, [.tmp 2], (.seq (.region false 0 [mf 2]) (.seq (.region false 0 [mv 3 0, ⟨some 4, none, .call 46 [((.s 3), [1]), ((.c (.int .i64 1)), [1]), ((.c (.int .i64 200)), [1])]⟩, mv 2 4]) (.ret false [])))⟩
def b74_0 : ACode := (.seq (.region false 0 [lsc 86 85 3]) (.seq (.cond (.s 86) .skip (.exit 0 true (but 164 [1]))) (.seq (.block 1 (.seq (.region false 0 [mv 87 85, mv 6 87]) (.seq (.region false 0 [fa 88 1 1, ld 89 1 88, mv 90 89, mvu 91 90 6, fau 92 90 0 1, ldu 93 90 1 92, ⟨some 94, (some (90, true)), .bin .neq (.s 91) (.s 93)⟩, pkf 95 90 94, mv 7 95]) (.seq (.region false 0 [fa 96 12 1, ld 97 1 96, mv 98 6, ia 99 1 97 98, ld 100 1 99, mv 101 100, mvu 102 101 7, ⟨some 103, (some (101, true)), .un .not (.s 102)⟩, pkf 104 101 103, mv 105 104, fao 106 105 14 1, ldo 107 105 1 106, mvo 108 105 6, ⟨some 109, (some (105, false)), .ia 1 (.s 107) (.s 108)⟩, ldo 110 105 1 109, mvo 111 105 110, fau 112 111 12 1, ldu 113 111 1 112, mvu 114 111 6, iau 115 111 1 113 114, ldu 116 111 1 115, ⟨some 117, (some (111, true)), .un .not (.s 116)⟩, pko 118 105 111 117, pkt 119 105 118, mv 120 119, fao 121 120 13 1, ldo 122 120 1 121, mvo 123 120 6, ⟨some 124, (some (120, false)), .ia 1 (.s 122) (.s 123)⟩, ldo 125 120 1 124, ⟨some 126, (some (120, false)), .len (.s 125)⟩, gtc 127 120 126 0, mvo 128 120 127, fau 129 128 14 1, ldu 130 128 1 129, mvu 131 128 6, iau 132 128 1 130 131, ldu 133 128 1 132, ⟨some 134, (some (128, true)), .un .not (.s 133)⟩, pko 135 120 128 134, pkt 136 120 135]) (.cond (.s 136) (.seq (.region false 0 [mf 2]) (.ret true (but 164 [2]))) .skip))))) (.region false 0 [adc 137 85 1, mv 85 137]))))
def d74_0 : List Nat := (but 164 [1, 85])
def l74_0 : ACode := .loop true d74_0 b74_0
def b74_1 : ACode := (.seq (.region false 0 [lss 142 141 140]) (.seq (.cond (.s 142) .skip (.exit 2 true (but 164 []))) (.seq (.block 3 (.seq (.region false 0 [mv 143 141, ia 144 1 139 141, ld 145 1 144, mv 8 143, mv 9 145]) (.seq (.region false 0 [mv 146 9, ca 147 95 146 1, nt 148 147, mv 149 148, mvo 150 149 8, gtc 151 149 150 0, mvo 152 149 151, fau 153 152 15 1, ldu 154 152 1 153, mvu 155 152 8, ⟨some 156, (some (152, true)), .bin .sub (.s 155) (.c (.int .i64 1))⟩, iau 157 152 1 154 156, ldu 158 152 1 157, mvu 159 152 9, ⟨some 160, (some (152, true)), .bin .geq (.s 158) (.s 159)⟩, pko 161 149 152 160, pkt 162 149 161]) (.cond (.s 162) (.seq (.region false 0 [mf 2]) (.ret true (but 164 [2]))) .skip)))) (.region false 0 [adc 163 141 1, mv 141 163]))))
def d74_1 : List Nat := (but 164 [1, 139, 140, 141])
def l74_1 : ACode := .loop true d74_1 b74_1
/-- loop.example/g00399/impl.NodeOk -/
def a74 : AFun := ⟨164, [.tmp 2], (.seq (.region false 0 [⟨some 1, none, .bxr 16 (.s 0)⟩, mf 2]) (.seq (.seq (.region false 0 [fa 10 0 1, ld 11 1 10, ca 12 26 11 1, nt 13 12, mv 14 13, fao 15 14 3 1, ldo 16 14 1 15, ⟨some 17, (some (14, false)), .call 48 [((.s 16), [1])]⟩, nto 18 14 17, pkt 19 14 18, mv 20 19, fao 21 20 4 1, ⟨some 22, (some (20, false)), .ld 6 true (.s 21)⟩, ⟨some 23, (some (20, false)), .call 91 [((.s 22), [1, 1, 1, 1, 1, 1])]⟩, nto 24 20 23, pkt 25 20 24, mv 26 25, fao 27 26 12 1, ldo 28 26 1 27, ⟨some 29, (some (26, false)), .len (.s 28)⟩, ⟨some 30, (some (26, false)), .bin .neq (.s 29) (.c (.int .i64 3))⟩, pkt 31 26 30, mv 32 31, fao 33 32 13 1, ldo 34 32 1 33, ⟨some 35, (some (32, false)), .call 92 [((.s 34), [1])]⟩, nto 36 32 35, pkt 37 32 36, mv 38 37, fao 39 38 14 1, ldo 40 38 1 39, ⟨some 41, (some (38, false)), .len (.s 40)⟩, ⟨some 42, (some (38, false)), .bin .neq (.s 41) (.c (.int .i64 3))⟩, pkt 43 38 42, mv 44 43, fao 45 44 2 1, ldo 46 44 1 45, mvo 47 44 46, fau 48 47 1 1, ldu 49 47 1 48, ⟨some 50, (some (47, true)), .un .not (.s 49)⟩, mvu 51 47 50, fao 52 51 0 1, ldo 53 51 1 52, ⟨some 54, (some (51, false)), .bin .eql (.s 53) (.c (.int .i64 2))⟩, ⟨some 55, (some (47, true)), .pick (.s 51) (.c (.bool true)) (.s 54)⟩, pko 56 44 47 55, pkt 57 44 56, mv 58 57, fao 59 58 1 1, ldo 60 58 1 59, nto 61 58 60, mvo 62 58 61, fau 63 62 15 1, ldu 64 62 1 63, ⟨some 65, (some (62, true)), .len (.s 64)⟩, ⟨some 66, (some (62, true)), .bin .gtr (.s 65) (.c (.int .i64 0))⟩, pko 67 58 62 66, pkt 68 58 67]) (.cond (.s 68) (.seq (.region false 0 [mf 2]) (.ret false [])) .skip)) (.seq (.seq (.region false 0 [fa 70 10 1, lt 71 2 70, ⟨some 72, none, .call 93 [((.s 71), [1, 1])]⟩, mv 69 72, ex 73 69 0, ex 74 69 1, ex 75 69 2, ⟨some 3, none, .alc [.nil, .nil, .bool false, .bool false, .bool false, .int .i64 0]⟩, sto 6 3 73, mv 4 74, mv 5 75]) (.seq (.region false 0 [mv 76 5, nt 77 76, mv 78 77, ⟨some 79, (some (78, false)), .ld 6 true (.s 3)⟩, fao 80 78 4 1, ⟨some 81, (some (78, false)), .ld 6 true (.s 80)⟩, ⟨some 82, (some (78, false)), .call 94 [((.s 79), [1, 1, 1, 1, 1, 1]), ((.s 81), [1, 1, 1, 1, 1, 1])]⟩, nto 83 78 82, pkt 84 78 83]) (.cond (.s 84) (.seq (.region false 0 [mf 2]) (.ret false [])) .skip))) (.seq (.seq (.region false 0 [mi 85 0]) (.block 0 l74_0)) (.seq (.seq (.region false 0 [fa 138 15 1, ld 139 1 138, len 140 139, mi 141 0]) (.block 2 l74_1)) (.seq (.region false 0 [mt 2]) (.ret false [])))))))⟩
/-- loop.example/g00399/impl.nodesOk$1 -/
def a76 : AFun := ⟨9, [.tmp 3], (.seq (.region false 0 [mf 3]) (.seq (.region false 0 [mv 4 0, fa 5 2 1, ld 6 1 5, len 7 6, ⟨some 8, none, .bin .gtr (.s 4) (.s 7)⟩, mv 3 8]) (.ret false [])))⟩
def b45_0 : ACode := (.seq (.region false 0 [lss 16 15 14]) (.seq (.cond (.s 16) .skip (.exit 0 true (but 75 [1]))) (.seq (.block 1 (.seq (.region false 0 [mv 17 15, ia 18 16 13 15, lt 19 16 18, ⟨some 4, none, .alc [.int .i64 0, .bool false, .bool false, .nil, .nil, .nil, .bool false, .bool false, .bool false, .int .i64 0, .nil, .nil, .nil, .nil, .nil, .nil]⟩, mv 3 17, sto 16 4 19]) (.seq (.region false 0 [lt 20 16 4, ⟨some 21, none, .call 74 [((.s 20), [1, 1, 1, 1, 1, 1, 1, 1, 1, 1, 1, 1, 1, 1, 1, 1])]⟩, nt 22 21, mv 23 22, fao 24 23 0 4, ldo 25 23 1 24, mvo 26 23 3, ⟨some 27, (some (23, false)), .bin .neq (.s 25) (.s 26)⟩, pkt 28 23 27, mv 29 28, fao 30 29 4 4, fao 31 29 5 30, ldo 32 29 1 31, fao 33 29 2 1, ldo 34 29 1 33, ⟨some 35, (some (29, false)), .len (.s 34)⟩, ⟨some 36, (some (29, false)), .bin .gtr (.s 32) (.s 35)⟩, pkt 37 29 36, mv 38 37, fao 39 38 3 4, ldo 40 38 1 39, ⟨some 41, (some (38, false)), .mf 76 [(.s 1)]⟩, ⟨some 42, (some (38, false)), .thru 75 [(.s 40), (.s 41)]⟩, pkt 43 38 42]) (.cond (.s 43) (.seq (.region false 0 [mf 2]) (.ret true (but 75 [2]))) .skip)))) (.region false 0 [adc 44 15 1, mv 15 44]))))
def d45_0 : List Nat := (but 75 [1, 13, 14, 15])
def l45_0 : ACode := .loop true d45_0 b45_0
def b45_2 : ACode := (.seq (.region false 0 [lsc 54 53 3]) (.seq (.cond (.s 54) .skip (.exit 4 true (but 75 [1, 46, 47, 48]))) (.seq (.block 5 (.seq (.region false 0 [mv 55 53, mv 7 55]) (.seq (.region false 0 [fa 56 12 6, ld 57 1 56, mv 58 7, ia 59 1 57 58, ld 60 1 59, mv 61 60, fau 62 61 0 1, ldu 63 61 1 62, mvu 64 61 7, iau 65 61 16 63 64, fau 66 61 12 65, ldu 67 61 1 66, mvu 68 61 5, iau 69 61 1 67 68, ldu 70 61 1 69, ⟨some 71, (some (61, true)), .un .not (.s 70)⟩, pkf 72 61 71]) (.cond (.s 72) (.seq (.region false 0 [mf 2]) (.ret true (but 75 [2]))) .skip)))) (.region false 0 [adc 73 53 1, mv 53 73]))))
def d45_2 : List Nat := (but 75 [1, 5, 6, 46, 47, 48, 53])
def l45_2 : ACode := .loop true d45_2 b45_2
def b45_1 : ACode := (.seq (.region false 0 [lss 49 48 47]) (.seq (.cond (.s 49) .skip (.exit 2 true (but 75 []))) (.seq (.block 3 (.seq (.region false 0 [mv 50 48, ia 51 16 46 48, lt 52 16 51, ⟨some 6, none, .alc [.int .i64 0, .bool false, .bool false, .nil, .nil, .nil, .bool false, .bool false, .bool false, .int .i64 0, .nil, .nil, .nil, .nil, .nil, .nil]⟩, mv 5 50, sto 16 6 52]) (.seq (.region false 0 [mi 53 0]) (.block 4 l45_2)))) (.region false 0 [adc 74 48 1, mv 48 74]))))
def d45_1 : List Nat := (but 75 [1, 46, 47, 48])
def l45_1 : ACode := .loop true d45_1 b45_1
/-- loop.example/g00399/impl.nodesOk -/
def a45 : AFun := ⟨75, [.tmp 2], (.seq (.region false 0 [bx 1 5 0, mf 2]) (.seq (.seq (.region false 0 [fa 8 0 1, ld 9 1 8, len 10 9, ⟨some 11, none, .bin .neq (.s 10) (.c (.int .i64 3))⟩]) (.cond (.s 11) (.seq (.region false 0 [mf 2]) (.ret false [])) .skip)) (.seq (.seq (.region false 0 [fa 12 0 1, ld 13 1 12, len 14 13, mi 15 0]) (.block 0 l45_0)) (.seq (.seq (.region false 0 [fa 45 0 1, ld 46 1 45, len 47 46, mi 48 0]) (.block 2 l45_1)) (.seq (.region false 0 [mt 2]) (.ret false []))))))⟩
def b25_0 : ACode := (.seq (.region false 0 [lss 34 33 32]) (.seq (.cond (.s 34) .skip (.exit 0 true (but 124 [1]))) (.seq (.block 1 (.seq (.region false 0 [ia 35 3 31 33, lt 36 3 35, ⟨some 4, none, .alc [.int .i64 0, .int .i64 0, .nil]⟩, sto 3 4 36]) (.seq (.region true 37 [fa 37 0 4, ld 38 1 37, ca 39 26 38 1, nt 40 39, mv 41 40, fao 42 41 1 4, ldo 43 41 1 42, ⟨some 44, (some (41, false)), .call 26 [((.s 43), [1])]⟩, nto 45 41 44, pkt 46 41 45, mv 47 46, fao 48 47 0 4, ldo 49 47 1 48, fao 50 47 1 4, ldo 51 47 1 50, ⟨some 52, (some (47, false)), .bin .eql (.s 49) (.s 51)⟩, pkt 53 47 52, mv 54 53, fao 55 54 0 1, ldo 56 54 1 55, fao 57 54 0 4, ldo 58 54 1 57, ⟨some 59, (some (54, false)), .ia 16 (.s 56) (.s 58)⟩, fao 60 54 12 59, ldo 61 54 1 60, fao 62 54 1 4, ldo 63 54 1 62, ⟨some 64, (some (54, false)), .ia 1 (.s 61) (.s 63)⟩, ldo 65 54 1 64, nto 66 54 65, pkt 67 54 66, mv 68 67, fao 69 68 2 4, ldo 70 68 1 69, ⟨some 71, (some (68, false)), .len (.s 70)⟩, gtc 72 68 71 400, pkt 73 68 72]) (.cond (.s 73) (.seq (.region false 0 [mf 2]) (.ret true (but 124 [2]))) .skip)))) (.region false 0 [adc 74 33 1, mv 33 74]))))
def d25_0 : List Nat := (but 124 [1, 31, 32, 33])
def l25_0 : ACode := .loop true d25_0 b25_0
def b25_1 : ACode := (.seq (.region false 0 [lss 79 78 77]) (.seq (.cond (.s 79) .skip (.exit 2 true (but 124 [1]))) (.seq (.block 3 (.seq (.region false 0 [mv 80 78, ia 81 2 76 78, lt 82 2 81, ⟨some 6, none, .alc [.int .i64 0, .int .i64 0]⟩, mv 5 80, sto 2 6 82]) (.seq (.region false 0 [fa 83 0 6, ld 84 1 83, ca 85 47 84 1, nt 86 85, mv 87 86, fao 88 87 1 6, ldo 89 87 1 88, mvo 90 87 5, ⟨some 91, (some (87, false)), .call 46 [((.s 89), [1]), ((.c (.int .i64 0)), [1]), ((.s 90), [1])]⟩, nto 92 87 91, pkt 93 87 92]) (.cond (.s 93) (.seq (.region false 0 [mf 2]) (.ret true (but 124 [2]))) .skip)))) (.region false 0 [adc 94 78 1, mv 78 94]))))
def d25_1 : List Nat := (but 124 [1, 76, 77, 78])
def l25_1 : ACode := .loop true d25_1 b25_1
def b25_2 : ACode := (.seq (.region false 0 [lss 99 98 97]) (.seq (.cond (.s 99) .skip (.exit 4 true (but 124 []))) (.seq (.block 5 (.seq (.region false 0 [mv 100 98, ia 101 1 96 98, ld 102 1 101, mv 7 100, mv 8 102]) (.seq (.region false 0 [mv 103 8, fa 104 2 1, ld 105 1 104, len 106 105, ⟨some 107, none, .call 46 [((.s 103), [1]), ((.c (.int .i64 1)), [1]), ((.s 106), [1])]⟩, nt 108 107, mv 109 108, mvo 110 109 7, gtc 111 109 110 0, mvo 112 109 111, fau 113 112 3 1, ldu 114 112 1 113, mvu 115 112 7, ⟨some 116, (some (112, true)), .bin .sub (.s 115) (.c (.int .i64 1))⟩, iau 117 112 1 114 116, ldu 118 112 1 117, mvu 119 112 8, ⟨some 120, (some (112, true)), .bin .geq (.s 118) (.s 119)⟩, pko 121 109 112 120, pkt 122 109 121]) (.cond (.s 122) (.seq (.region false 0 [mf 2]) (.ret true (but 124 [2]))) .skip)))) (.region false 0 [adc 123 98 1, mv 98 123]))))
def d25_2 : List Nat := (but 124 [1, 96, 97, 98])
def l25_2 : ACode := .loop true d25_2 b25_2
/-- loop.example/g00399/impl.WorldOk -/
def a25 : AFun := ⟨124, [.tmp 2], (.seq (.region false 0 [⟨some 1, none, .bxr 5 (.s 0)⟩, mf 2]) (.seq (.seq (.region false 0 [lt 9 5 1, ⟨some 10, none, .call 45 [((.s 9), [16, 3, 2, 1, 1])]⟩, nt 11 10, mv 12 11, fao 13 12 1 1, ldo 14 12 1 13, ⟨some 15, (some (12, false)), .len (.s 14)⟩, gtc 16 12 15 40, pkt 17 12 16, mv 18 17, fao 19 18 2 1, ldo 20 18 1 19, ⟨some 21, (some (18, false)), .len (.s 20)⟩, gtc 22 18 21 200, pkt 23 18 22, mv 24 23, fao 25 24 4 1, ldo 26 24 1 25, ⟨some 27, (some (24, false)), .call 46 [((.s 26), [1]), ((.c (.int .i64 2)), [1]), ((.c (.int .i64 100000)), [1])]⟩, nto 28 24 27, pkt 29 24 28]) (.cond (.s 29) (.seq (.region false 0 [mf 2]) (.ret false [])) .skip)) (.seq (.seq (.region false 0 [fa 30 1 1, ld 31 1 30, len 32 31, mi 33 0]) (.block 0 l25_0)) (.seq (.seq (.region false 0 [fa 75 2 1, ld 76 1 75, len 77 76, mi 78 0]) (.block 2 l25_1)) (.seq (.seq (.region false 0 [fa 95 3 1, ld 96 1 95, len 97 96, mi 98 0]) (.block 4 l25_2)) (.seq (.region false 0 [mt 2]) (.ret false [])))))))⟩
def b79_0 : ACode := (.seq (.region false 0 [lss 10 9 8]) (.seq (.cond (.s 10) .skip (.exit 0 true [0, 1, 2, 5, 6, 7, 8, 9, 10, 11, 12, 13, 14, 15, 16, 17, 18, 19, 20, 21, 22, 23, 24, 25, 26])) (.seq (.block 1 (.seq (.region false 0 [ia 11 1 7 9, ld 12 1 11, mv 6 12]) (.seq (.region false 0 [mv 13 3, mv 14 6, ⟨some 15, none, .conv .i64 (.s 14)⟩, ads 16 13 15, ⟨some 17, none, .bin .rem (.s 16) (.c (.int .i64 65521))⟩, mv 3 17]) (.region false 0 [mv 18 4, mv 19 3, ads 20 18 19, ⟨some 21, none, .bin .rem (.s 20) (.c (.int .i64 65521))⟩, mv 4 21])))) (.region false 0 [adc 22 9 1, mv 9 22]))))
def d79_0 : List Nat := [0, 1, 2, 5, 6, 10, 11, 12, 13, 14, 15, 16, 17, 18, 19, 20, 21, 22, 23, 24, 25, 26]
def l79_0 : ACode := .loop true d79_0 b79_0
/-- loop.example/g00399/impl.SumOf -/
def a79 : AFun := ⟨27, [.tmp 2], (.seq (.region false 0 [mi 2 0]) (.seq (.region false 0 [mi 3 1, mi 4 0]) (.seq (.seq (.region false 0 [mv 7 0, len 8 7, mi 9 0]) (.block 0 l79_0)) (.seq (.region false 0 [mv 23 4, ⟨some 24, none, .bin .mul (.s 23) (.c (.int .i64 65536))⟩, mv 25 3, ads 26 24 25, mv 2 26]) (.ret false [])))))⟩
/-- loop.example/g00399/impl.Digest -/
def a51 : AFun := ⟨19, [.tmp 4], (.seq (.region false 0 [mi 4 0]) (.seq (.seq (.region false 0 [mv 5 0, ca 6 48 5 1, nt 7 6, mv 8 7, mvo 9 8 1, ⟨some 10, (some (8, false)), .call 47 [((.s 9), [1])]⟩, nto 11 8 10, pkt 12 8 11]) (.cond (.s 12) (.seq (.region false 0 [mi 4 0]) (.ret false [])) .skip)) (.seq (.region false 0 [mv 13 0, mv 14 1, ia 15 1 13 14, ld 16 1 15, ca 17 80 16 1, ca 18 79 17 1, mv 4 18]) (.ret false []))))⟩
def b28_0 : ACode := (.seq (.region false 0 [lss 13 12 11]) (.seq (.cond (.s 13) .skip (.exit 0 true [0, 1, 2, 4, 5, 6, 7, 8, 9, 10, 11, 12, 13, 14, 15, 16, 17, 18, 19, 20, 21, 22])) (.seq (.block 1 (.seq (.region false 0 [mv 14 12, mv 4 14]) (.region false 0 [mv 15 3, mv 16 0, mv 17 4, cd 18 51 16 1 17 1, ⟨some 19, none, .lit 1 [.int .i64 0] 1 [(0, 1, (.s 18))]⟩, ap 20 1 8 15 19, mv 3 20]))) (.region false 0 [adc 21 12 1, mv 12 21]))))
def d28_0 : List Nat := [1, 2, 4, 5, 6, 7, 8, 9, 10, 13, 14, 15, 16, 17, 18, 19, 20, 21, 22]
def l28_0 : ACode := .loop true d28_0 b28_0
/-- loop.example/g00399/impl.Digests -/
def a28 : AFun := ⟨23, [.tmp 2], (.seq (.region false 0 [ml 2]) (.seq (.region false 0 [⟨some 5, none, .lit 1 [.int .i64 0] 0 []⟩, mv 3 5]) (.seq (.seq (.region false 0 [mv 6 0, ca 7 48 6 1, nt 8 7]) (.cond (.s 8) (.seq (.region false 0 [mv 9 3, mv 2 9]) (.ret false [])) .skip)) (.seq (.seq (.region false 0 [mv 10 0, len 11 10, mi 12 0]) (.block 0 l28_0)) (.seq (.region false 0 [mv 22 3, mv 2 22]) (.ret false []))))))⟩
/-- loop.example/g00399/impl.DigestsOk$1 -/
def a78 : AFun := ⟨5, [.tmp 2], (.seq (.region false 0 [mf 2]) (.seq (.region false 0 [mv 3 0, lsc 4 3 0, mv 2 4]) (.ret false [])))⟩
/-- loop.example/g00399/impl.DigestsOk -/
def a49 : AFun := ⟨11, [.tmp 2], (.seq (.region false 0 [mf 2]) (.seq (.region false 0 [mv 3 0, len 4 3, ⟨some 5, none, .bin .eql (.s 4) (.c (.int .i64 8))⟩, mv 6 5, mvu 7 6 0, ⟨some 8, (some (6, true)), .call 75 [((.s 7), [1]), ((.c (.fn 78 [])), [1])]⟩, ⟨some 9, (some (6, true)), .un .not (.s 8)⟩, pkf 10 6 9, mv 2 10]) (.ret false [])))⟩
def b50_0 : ACode := (.seq (.region false 0 [lsc 11 10 8]) (.seq (.cond (.s 11) .skip (.exit 0 true [0, 1, 2, 3, 4, 6, 7, 8, 9, 10, 11, 12, 13, 14, 15, 16, 17, 18, 19, 20, 21, 22, 23, 24, 25, 26, 27, 28, 29, 30, 31, 32, 33, 34, 35, 36, 37, 38, 39, 40, 41, 42, 43])) (.seq (.block 1 (.seq (.region false 0 [mv 12 10, mv 6 12]) (.seq (.region false 0 [mv 13 6, mv 14 0, len 15 14, lss 16 13 15, mv 17 6, mv 18 1, len 19 18, lss 20 17 19, mv 7 16, mv 8 20]) (.seq (.region true 17 [mv 21 7, mv 22 8, ⟨some 23, none, .beq true (.s 21) (.s 22)⟩, mv 24 23, mvo 25 24 7, mvo 26 24 25, mvu 27 26 0, mvu 28 26 6, iau 29 26 1 27 28, ldu 30 26 1 29, mvu 31 26 1, mvu 32 26 6, iau 33 26 1 31 32, ldu 34 26 1 33, ⟨some 35, (some (26, true)), .bin .neq (.s 30) (.s 34)⟩, pko 36 24 26 35, pkt 37 24 36]) (.cond (.s 37) (.region false 0 [mv 38 5, mv 39 6, ⟨some 40, none, .lit 1 [.int .i64 0] 1 [(0, 1, (.s 39))]⟩, ap 41 1 8 38 40, mv 5 41]) .skip))))) (.region false 0 [adc 42 10 1, mv 10 42]))))
def d50_0 : List Nat := [2, 3, 4, 6, 7, 8, 9, 11, 12, 13, 14, 15, 16, 17, 18, 19, 20, 21, 22, 23, 24, 25, 26, 27, 28, 29, 30, 31, 32, 33, 34, 35, 36, 37, 38, 39, 40, 41, 42, 43]
def l50_0 : ACode := .loop true d50_0 b50_0
/-- loop.example/g00399/impl.Differ -/
def a50 : AFun := ⟨44, [.tmp 4], (.seq (.region false 0 [ml 4]) (.seq (.region false 0 [⟨some 9, none, .lit 1 [.int .i64 0] 0 []⟩, mv 5 9]) (.seq (.seq (.region false 0 [mi 10 0]) (.block 0 l50_0)) (.seq (.region false 0 [mv 43 5, mv 4 43]) (.ret false [])))))⟩
/-- loop.example/g00399/impl.Compare -/
def a27 : AFun := ⟨18, [.tmp 4, .tmp 5], (.seq (.region false 0 [ml 4, mf 5]) (.seq (.seq (.region false 0 [mv 6 0, ca 7 48 6 1, nt 8 7, mv 9 8, mvo 10 9 1, ⟨some 11, (some (9, false)), .call 49 [((.s 10), [1])]⟩, nto 12 9 11, pkt 13 9 12]) (.cond (.s 13) (.seq (.region false 0 [ml 4, mf 5]) (.ret false [])) .skip)) (.seq (.region false 0 [mv 14 0, ca 15 28 14 1, mv 16 1, cd 17 50 15 1 16 1, mv 4 17, mt 5]) (.ret false []))))⟩
/-- loop.example/g00399/impl.CheckPair -/
def a7 : AFun := ⟨63, [.tmp 6, .tmp 7], (.seq (.region false 0 [⟨some 3, none, .bxr 5 (.s 0)⟩, ml 6, mi 7 0]) (.seq (.block 0 (.seq (.region false 0 [lt 11 5 3, ⟨some 12, none, .call 25 [((.s 11), [16, 3, 2, 1, 1])]⟩, nt 13 12, mv 10 13]) (.cond (.s 10) (.seq (.region false 0 [ml 6, mi 7 1]) (.ret false [])) (.seq (.region false 0 [mv 15 1, ca 16 26 15 1, nt 17 16, mv 18 17, mvo 19 18 2, ⟨some 20, (some (18, false)), .call 26 [((.s 19), [1])]⟩, nto 21 18 20, pkt 22 18 21, mv 23 22, mvo 24 23 1, mvo 25 23 2, ⟨some 26, (some (23, false)), .bin .eql (.s 24) (.s 25)⟩, pkt 27 23 26, mv 14 27]) (.cond (.s 14) (.seq (.region false 0 [ml 6, mi 7 2]) (.ret false [])) (.seq (.region false 0 [fa 29 0 3, ld 30 1 29, mv 31 1, ia 32 16 30 31, fa 33 1 32, ld 34 1 33, nt 35 34, mv 36 35, fao 37 36 0 3, ldo 38 36 1 37, mvo 39 36 2, ⟨some 40, (some (36, false)), .ia 16 (.s 38) (.s 39)⟩, fao 41 36 1 40, ldo 42 36 1 41, nto 43 36 42, pkt 44 36 43, mv 28 44]) (.cond (.s 28) (.seq (.region false 0 [ml 6, mi 7 3]) (.ret false [])) .skip))))))) (.seq (.region true 19 [fa 46 0 3, ld 47 1 46, mv 48 1, ia 49 16 47 48, fa 50 3 49, ld 51 1 50, fa 52 0 3, ld 53 1 52, mv 54 2, ia 55 16 53 54, fa 56 3 55, ld 57 1 56, ca 58 28 57 1, cd 59 27 51 1 58 1, mv 45 59, ex 60 45 0, ex 61 45 1, mv 8 60, mv 9 61]) (.seq (.region false 0 [mv 62 8, mv 6 62, mi 7 0]) (.ret false [])))))⟩
def b8_0 : ACode := (.seq (.seq (.region false 0 [mv 11 5, mv 12 0, len 13 12, lss 14 11 13]) (.cond (.s 14) .skip (.exit 0 true [0, 1, 2, 3, 4, 5, 6, 7, 8, 9, 10, 11, 12, 13, 14, 15, 16, 17, 18, 19, 20, 21, 22, 23, 24, 25]))) (.seq (.block 1 (.seq (.region true 9 [mv 17 0, mv 18 5, ia 19 1 17 18, ld 20 1 19, mv 21 1, mv 22 5, ia 23 1 21 22, ld 24 1 23, nes 25 20 24]) (.cond (.s 25) (.seq (.region false 0 [mf 4]) (.ret true [0, 1, 2, 3, 5, 6, 7, 8, 9, 10, 11, 12, 13, 14, 15, 16, 17, 18, 19, 20, 21, 22, 23, 24, 25])) .skip))) (.region false 0 [mv 15 5, adc 16 15 1, mv 5 16])))
def d8_0 : List Nat := [2, 3, 4, 6, 7, 8, 9, 10, 11, 12, 13, 14, 15, 16, 17, 18, 19, 20, 21, 22, 23, 24, 25]
def l8_0 : ACode := .loop true d8_0 b8_0
/-- loop.example/g00399/laws.eqIntS -/
def a8 : AFun := ⟨26, [.tmp 4], (.seq (.region false 0 [mf 4]) (.seq (.seq (.region false 0 [mv 6 0, len 7 6, mv 8 1, len 9 8, nes 10 7 9]) (.cond (.s 10) (.seq (.region false 0 [mf 4]) (.ret false [])) .skip)) (.seq (.seq (.region false 0 [mi 5 0]) (.block 0 l8_0)) (.seq (.region false 0 [mt 4]) (.ret false [])))))⟩
def b84_0 : ACode := (.seq (.seq (.region false 0 [mv 11 5, mv 12 0, len 13 12, lss 14 11 13]) (.cond (.s 14) .skip (.exit 0 true [0, 1, 2, 3, 4, 5, 6, 7, 8, 9, 10, 11, 12, 13, 14, 15, 16, 17, 18, 19, 20, 21, 22, 23, 24, 25, 26]))) (.seq (.block 1 (.seq (.region true 10 [mv 17 0, mv 18 5, ia 19 1 17 18, ld 20 1 19, mv 21 1, mv 22 5, ia 23 1 21 22, ld 24 1 23, cd 25 8 20 1 24 1, nt 26 25]) (.cond (.s 26) (.seq (.region false 0 [mf 4]) (.ret true [0, 1, 2, 3, 5, 6, 7, 8, 9, 10, 11, 12, 13, 14, 15, 16, 17, 18, 19, 20, 21, 22, 23, 24, 25, 26])) .skip))) (.region false 0 [mv 15 5, adc 16 15 1, mv 5 16])))
def d84_0 : List Nat := [2, 3, 4, 6, 7, 8, 9, 10, 11, 12, 13, 14, 15, 16, 17, 18, 19, 20, 21, 22, 23, 24, 25, 26]
def l84_0 : ACode := .loop true d84_0 b84_0
/-- loop.example/g00399/laws.eqIntSS -/
def a84 : AFun := ⟨27, [.tmp 4], (.seq (.region false 0 [mf 4]) (.seq (.seq (.region false 0 [mv 6 0, len 7 6, mv 8 1, len 9 8, nes 10 7 9]) (.cond (.s 10) (.seq (.region false 0 [mf 4]) (.ret false [])) .skip)) (.seq (.seq (.region false 0 [mi 5 0]) (.block 0 l84_0)) (.seq (.region false 0 [mt 4]) (.ret false [])))))⟩
/-- loop.example/g00399/laws.eqMeta -/
def a81 : AFun := ⟨37, [.tmp 4], (.seq (.region false 0 [bx 2 6 0, bx 3 6 1, mf 4]) (.seq (.seq (.region false 0 [fa 5 0 2, ld 6 1 5, fa 7 0 3, ld 8 1 7, cd 9 8 6 1 8 1, nt 10 9]) (.cond (.s 10) (.seq (.region false 0 [mf 4]) (.ret false [])) .skip)) (.seq (.seq (.region false 0 [fa 11 1 2, ld 12 1 11, fa 13 1 3, ld 14 1 13, cd 15 84 12 1 14 1, nt 16 15]) (.cond (.s 16) (.seq (.region false 0 [mf 4]) (.ret false [])) .skip)) (.seq (.seq (.region false 0 [fa 17 2 2, ld 18 1 17, fa 19 2 3, ld 20 1 19, ⟨some 21, none, .beq true (.s 18) (.s 20)⟩]) (.cond (.s 21) (.seq (.region false 0 [mf 4]) (.ret false [])) .skip)) (.seq (.seq (.region false 0 [fa 22 3 2, ld 23 1 22, fa 24 3 3, ld 25 1 24, ⟨some 26, none, .beq true (.s 23) (.s 25)⟩]) (.cond (.s 26) (.seq (.region false 0 [mf 4]) (.ret false [])) .skip)) (.seq (.seq (.region false 0 [fa 27 4 2, ld 28 1 27, fa 29 4 3, ld 30 1 29, ⟨some 31, none, .beq true (.s 28) (.s 30)⟩]) (.cond (.s 31) (.seq (.region false 0 [mf 4]) (.ret false [])) .skip)) (.seq (.seq (.region false 0 [fa 32 5 2, ld 33 1 32, fa 34 5 3, ld 35 1 34, nes 36 33 35]) (.cond (.s 36) (.seq (.region false 0 [mf 4]) (.ret false [])) .skip)) (.seq (.region false 0 [mt 4]) (.ret false [])))))))))⟩
def b85_0 : ACode := (.seq (.seq (.region false 0 [mv 11 5, mv 12 0, len 13 12, lss 14 11 13]) (.cond (.s 14) .skip (.exit 0 true [0, 1, 2, 3, 4, 5, 6, 7, 8, 9, 10, 11, 12, 13, 14, 15, 16, 17, 18, 19, 20, 21, 22, 23, 24, 25]))) (.seq (.block 1 (.seq (.region true 9 [mv 17 0, mv 18 5, ia 19 1 17 18, ld 20 1 19, mv 21 1, mv 22 5, ia 23 1 21 22, ld 24 1 23, nes 25 20 24]) (.cond (.s 25) (.seq (.region false 0 [mf 4]) (.ret true [0, 1, 2, 3, 5, 6, 7, 8, 9, 10, 11, 12, 13, 14, 15, 16, 17, 18, 19, 20, 21, 22, 23, 24, 25])) .skip))) (.region false 0 [mv 15 5, adc 16 15 1, mv 5 16])))
def d85_0 : List Nat := [2, 3, 4, 6, 7, 8, 9, 10, 11, 12, 13, 14, 15, 16, 17, 18, 19, 20, 21, 22, 23, 24, 25]
def l85_0 : ACode := .loop true d85_0 b85_0
/-- loop.example/g00399/laws.eqByteS -/
def a85 : AFun := ⟨26, [.tmp 4], (.seq (.region false 0 [mf 4]) (.seq (.seq (.region false 0 [mv 6 0, len 7 6, mv 8 1, len 9 8, nes 10 7 9]) (.cond (.s 10) (.seq (.region false 0 [mf 4]) (.ret false [])) .skip)) (.seq (.seq (.region false 0 [mi 5 0]) (.block 0 l85_0)) (.seq (.region false 0 [mt 4]) (.ret false [])))))⟩
/-- loop.example/g00399/laws.eqSlots -/
def a82 : AFun := ⟨17, [.tmp 4], (.seq (.region false 0 [bx 2 2 0, bx 3 2 1, mf 4]) (.seq (.seq (.region false 0 [fa 5 0 2, ld 6 1 5, fa 7 0 3, ld 8 1 7, cd 9 85 6 1 8 1, nt 10 9]) (.cond (.s 10) (.seq (.region false 0 [mf 4]) (.ret false [])) .skip)) (.seq (.seq (.region false 0 [fa 11 1 2, ld 12 1 11, fa 13 1 3, ld 14 1 13, cd 15 85 12 1 14 1, nt 16 15]) (.cond (.s 16) (.seq (.region false 0 [mf 4]) (.ret false [])) .skip)) (.seq (.region false 0 [mt 4]) (.ret false [])))))⟩
def b83_0 : ACode := (.seq (.seq (.region false 0 [mv 11 5, mv 12 0, len 13 12, lss 14 11 13]) (.cond (.s 14) .skip (.exit 0 true [0, 1, 2, 3, 4, 5, 6, 7, 8, 9, 10, 11, 12, 13, 14, 15, 16, 17, 18, 19, 20, 21, 22, 23, 24, 25]))) (.seq (.block 1 (.seq (.region true 9 [mv 17 0, mv 18 5, ia 19 1 17 18, ld 20 1 19, mv 21 1, mv 22 5, ia 23 1 21 22, ld 24 1 23, ⟨some 25, none, .beq true (.s 20) (.s 24)⟩]) (.cond (.s 25) (.seq (.region false 0 [mf 4]) (.ret true [0, 1, 2, 3, 5, 6, 7, 8, 9, 10, 11, 12, 13, 14, 15, 16, 17, 18, 19, 20, 21, 22, 23, 24, 25])) .skip))) (.region false 0 [mv 15 5, adc 16 15 1, mv 5 16])))
def d83_0 : List Nat := [2, 3, 4, 6, 7, 8, 9, 10, 11, 12, 13, 14, 15, 16, 17, 18, 19, 20, 21, 22, 23, 24, 25]
def l83_0 : ACode := .loop true d83_0 b83_0
/-- loop.example/g00399/laws.eqBoolS -/
def a83 : AFun := ⟨26, [.tmp 4], (.seq (.region false 0 [mf 4]) (.seq (.seq (.region false 0 [mv 6 0, len 7 6, mv 8 1, len 9 8, nes 10 7 9]) (.cond (.s 10) (.seq (.region false 0 [mf 4]) (.ret false [])) .skip)) (.seq (.seq (.region false 0 [mi 5 0]) (.block 0 l83_0)) (.seq (.region false 0 [mt 4]) (.ret false [])))))⟩
/-- loop.example/g00399/laws.eqNode -/
def a52 : AFun := ⟨62, [.tmp 4], (.seq (.region false 0 [bx 2 16 0, bx 3 16 1, mf 4]) (.seq (.seq (.region false 0 [fa 5 0 2, ld 6 1 5, fa 7 0 3, ld 8 1 7, nes 9 6 8]) (.cond (.s 9) (.seq (.region false 0 [mf 4]) (.ret false [])) .skip)) (.seq (.seq (.region false 0 [fa 10 1 2, ld 11 1 10, fa 12 1 3, ld 13 1 12, ⟨some 14, none, .beq true (.s 11) (.s 13)⟩]) (.cond (.s 14) (.seq (.region false 0 [mf 4]) (.ret false [])) .skip)) (.seq (.seq (.region false 0 [fa 15 2 2, ld 16 1 15, fa 17 2 3, ld 18 1 17, ⟨some 19, none, .beq true (.s 16) (.s 18)⟩]) (.cond (.s 19) (.seq (.region false 0 [mf 4]) (.ret false [])) .skip)) (.seq (.seq (.region false 0 [fa 20 3 2, ld 21 1 20, fa 22 3 3, ld 23 1 22, cd 24 8 21 1 23 1, nt 25 24]) (.cond (.s 25) (.seq (.region false 0 [mf 4]) (.ret false [])) .skip)) (.seq (.seq (.region false 0 [fa 26 4 2, lt 27 6 26, fa 28 4 3, lt 29 6 28, ⟨some 30, none, .call 81 [((.s 27), [1, 1, 1, 1, 1, 1]), ((.s 29), [1, 1, 1, 1, 1, 1])]⟩, nt 31 30]) (.cond (.s 31) (.seq (.region false 0 [mf 4]) (.ret false [])) .skip)) (.seq (.seq (.region false 0 [fa 32 10 2, lt 33 2 32, fa 34 10 3, lt 35 2 34, ⟨some 36, none, .call 82 [((.s 33), [1, 1]), ((.s 35), [1, 1])]⟩, nt 37 36]) (.cond (.s 37) (.seq (.region false 0 [mf 4]) (.ret false [])) .skip)) (.seq (.seq (.region false 0 [fa 38 12 2, ld 39 1 38, fa 40 12 3, ld 41 1 40, cd 42 83 39 1 41 1, nt 43 42]) (.cond (.s 43) (.seq (.region false 0 [mf 4]) (.ret false [])) .skip)) (.seq (.seq (.region false 0 [fa 44 13 2, ld 45 1 44, fa 46 13 3, ld 47 1 46, cd 48 84 45 1 47 1, nt 49 48]) (.cond (.s 49) (.seq (.region false 0 [mf 4]) (.ret false [])) .skip)) (.seq (.seq (.region false 0 [fa 50 14 2, ld 51 1 50, fa 52 14 3, ld 53 1 52, cd 54 83 51 1 53 1, nt 55 54]) (.cond (.s 55) (.seq (.region false 0 [mf 4]) (.ret false [])) .skip)) (.seq (.seq (.region false 0 [fa 56 15 2, ld 57 1 56, fa 58 15 3, ld 59 1 58, cd 60 8 57 1 59 1, nt 61 60]) (.cond (.s 61) (.seq (.region false 0 [mf 4]) (.ret false [])) .skip)) (.seq (.region false 0 [mt 4]) (.ret false [])))))))))))))⟩
def b29_0 : ACode := (.seq (.seq (.region false 0 [mv 11 5, mv 12 0, len 13 12, lss 14 11 13]) (.cond (.s 14) .skip (.exit 0 true [0, 1, 2, 3, 4, 5, 6, 7, 8, 9, 10, 11, 12, 13, 14, 15, 16, 17, 18, 19, 20, 21, 22, 23, 24, 25, 26]))) (.seq (.block 1 (.seq (.region true 10 [mv 17 0, mv 18 5, ia 19 16 17 18, lt 20 16 19, mv 21 1, mv 22 5, ia 23 16 21 22, lt 24 16 23, ⟨some 25, none, .call 52 [((.s 20), [1, 1, 1, 1, 1, 1, 1, 1, 1, 1, 1, 1, 1, 1, 1, 1]), ((.s 24), [1, 1, 1, 1, 1, 1, 1, 1, 1, 1, 1, 1, 1, 1, 1, 1])]⟩, nt 26 25]) (.cond (.s 26) (.seq (.region false 0 [mf 4]) (.ret true [0, 1, 2, 3, 5, 6, 7, 8, 9, 10, 11, 12, 13, 14, 15, 16, 17, 18, 19, 20, 21, 22, 23, 24, 25, 26])) .skip))) (.region false 0 [mv 15 5, adc 16 15 1, mv 5 16])))
def d29_0 : List Nat := [2, 3, 4, 6, 7, 8, 9, 10, 11, 12, 13, 14, 15, 16, 17, 18, 19, 20, 21, 22, 23, 24, 25, 26]
def l29_0 : ACode := .loop true d29_0 b29_0
/-- loop.example/g00399/laws.eqNodeS -/
def a29 : AFun := ⟨27, [.tmp 4], (.seq (.region false 0 [mf 4]) (.seq (.seq (.region false 0 [mv 6 0, len 7 6, mv 8 1, len 9 8, nes 10 7 9]) (.cond (.s 10) (.seq (.region false 0 [mf 4]) (.ret false [])) .skip)) (.seq (.seq (.region false 0 [mi 5 0]) (.block 0 l29_0)) (.seq (.region false 0 [mt 4]) (.ret false [])))))⟩
/-- loop.example/g00399/laws.eqWire -/
def a53 : AFun := ⟨21, [.tmp 4], (.seq (.region false 0 [bx 2 3 0, bx 3 3 1, mf 4]) (.seq (.seq (.region false 0 [fa 5 0 2, ld 6 1 5, fa 7 0 3, ld 8 1 7, nes 9 6 8]) (.cond (.s 9) (.seq (.region false 0 [mf 4]) (.ret false [])) .skip)) (.seq (.seq (.region false 0 [fa 10 1 2, ld 11 1 10, fa 12 1 3, ld 13 1 12, nes 14 11 13]) (.cond (.s 14) (.seq (.region false 0 [mf 4]) (.ret false [])) .skip)) (.seq (.seq (.region false 0 [fa 15 2 2, ld 16 1 15, fa 17 2 3, ld 18 1 17, cd 19 85 16 1 18 1, nt 20 19]) (.cond (.s 20) (.seq (.region false 0 [mf 4]) (.ret false [])) .skip)) (.seq (.region false 0 [mt 4]) (.ret false []))))))⟩
def b30_0 : ACode := (.seq (.seq (.region false 0 [mv 11 5, mv 12 0, len 13 12, lss 14 11 13]) (.cond (.s 14) .skip (.exit 0 true [0, 1, 2, 3, 4, 5, 6, 7, 8, 9, 10, 11, 12, 13, 14, 15, 16, 17, 18, 19, 20, 21, 22, 23, 24, 25, 26]))) (.seq (.block 1 (.seq (.region true 10 [mv 17 0, mv 18 5, ia 19 3 17 18, lt 20 3 19, mv 21 1, mv 22 5, ia 23 3 21 22, lt 24 3 23, ⟨some 25, none, .call 53 [((.s 20), [1, 1, 1]), ((.s 24), [1, 1, 1])]⟩, nt 26 25]) (.cond (.s 26) (.seq (.region false 0 [mf 4]) (.ret true [0, 1, 2, 3, 5, 6, 7, 8, 9, 10, 11, 12, 13, 14, 15, 16, 17, 18, 19, 20, 21, 22, 23, 24, 25, 26])) .skip))) (.region false 0 [mv 15 5, adc 16 15 1, mv 5 16])))
def d30_0 : List Nat := [2, 3, 4, 6, 7, 8, 9, 10, 11, 12, 13, 14, 15, 16, 17, 18, 19, 20, 21, 22, 23, 24, 25, 26]
def l30_0 : ACode := .loop true d30_0 b30_0
/-- loop.example/g00399/laws.eqWireS -/
def a30 : AFun := ⟨27, [.tmp 4], (.seq (.region false 0 [mf 4]) (.seq (.seq (.region false 0 [mv 6 0, len 7 6, mv 8 1, len 9 8, nes 10 7 9]) (.cond (.s 10) (.seq (.region false 0 [mf 4]) (.ret false [])) .skip)) (.seq (.seq (.region false 0 [mi 5 0]) (.block 0 l30_0)) (.seq (.region false 0 [mt 4]) (.ret false [])))))⟩
/-- loop.example/g00399/laws.eqRec -/
def a54 : AFun := ⟨15, [.tmp 4], (.seq (.region false 0 [bx 2 2 0, bx 3 2 1, mf 4]) (.seq (.seq (.region false 0 [fa 5 0 2, ld 6 1 5, fa 7 0 3, ld 8 1 7, nes 9 6 8]) (.cond (.s 9) (.seq (.region false 0 [mf 4]) (.ret false [])) .skip)) (.seq (.seq (.region false 0 [fa 10 1 2, ld 11 1 10, fa 12 1 3, ld 13 1 12, nes 14 11 13]) (.cond (.s 14) (.seq (.region false 0 [mf 4]) (.ret false [])) .skip)) (.seq (.region false 0 [mt 4]) (.ret false [])))))⟩
def b31_0 : ACode := (.seq (.seq (.region false 0 [mv 11 5, mv 12 0, len 13 12, lss 14 11 13]) (.cond (.s 14) .skip (.exit 0 true [0, 1, 2, 3, 4, 5, 6, 7, 8, 9, 10, 11, 12, 13, 14, 15, 16, 17, 18, 19, 20, 21, 22, 23, 24, 25, 26]))) (.seq (.block 1 (.seq (.region true 10 [mv 17 0, mv 18 5, ia 19 2 17 18, lt 20 2 19, mv 21 1, mv 22 5, ia 23 2 21 22, lt 24 2 23, ⟨some 25, none, .call 54 [((.s 20), [1, 1]), ((.s 24), [1, 1])]⟩, nt 26 25]) (.cond (.s 26) (.seq (.region false 0 [mf 4]) (.ret true [0, 1, 2, 3, 5, 6, 7, 8, 9, 10, 11, 12, 13, 14, 15, 16, 17, 18, 19, 20, 21, 22, 23, 24, 25, 26])) .skip))) (.region false 0 [mv 15 5, adc 16 15 1, mv 5 16])))
def d31_0 : List Nat := [2, 3, 4, 6, 7, 8, 9, 10, 11, 12, 13, 14, 15, 16, 17, 18, 19, 20, 21, 22, 23, 24, 25, 26]
def l31_0 : ACode := .loop true d31_0 b31_0
/-- loop.example/g00399/laws.eqRecS -/
def a31 : AFun := ⟨27, [.tmp 4], (.seq (.region false 0 [mf 4]) (.seq (.seq (.region false 0 [mv 6 0, len 7 6, mv 8 1, len 9 8, nes 10 7 9]) (.cond (.s 10) (.seq (.region false 0 [mf 4]) (.ret false [])) .skip)) (.seq (.seq (.region false 0 [mi 5 0]) (.block 0 l31_0)) (.seq (.region false 0 [mt 4]) (.ret false [])))))⟩
/-- loop.example/g00399/laws.eqWorld -/
def a9 : AFun := ⟨34, [.tmp 4], (.seq (.region false 0 [bx 2 5 0, bx 3 5 1, mf 4]) (.seq (.seq (.region false 0 [fa 5 0 2, ld 6 1 5, fa 7 0 3, ld 8 1 7, cd 9 29 6 16 8 16, nt 10 9]) (.cond (.s 10) (.seq (.region false 0 [mf 4]) (.ret false [])) .skip)) (.seq (.seq (.region false 0 [fa 11 1 2, ld 12 1 11, fa 13 1 3, ld 14 1 13, cd 15 30 12 3 14 3, nt 16 15]) (.cond (.s 16) (.seq (.region false 0 [mf 4]) (.ret false [])) .skip)) (.seq (.seq (.region false 0 [fa 17 2 2, ld 18 1 17, fa 19 2 3, ld 20 1 19, cd 21 31 18 2 20 2, nt 22 21]) (.cond (.s 22) (.seq (.region false 0 [mf 4]) (.ret false [])) .skip)) (.seq (.seq (.region false 0 [fa 23 3 2, ld 24 1 23, fa 25 3 3, ld 26 1 25, cd 27 8 24 1 26 1, nt 28 27]) (.cond (.s 28) (.seq (.region false 0 [mf 4]) (.ret false [])) .skip)) (.seq (.seq (.region false 0 [fa 29 4 2, ld 30 1 29, fa 31 4 3, ld 32 1 31, nes 33 30 32]) (.cond (.s 33) (.seq (.region false 0 [mf 4]) (.ret false [])) .skip)) (.seq (.region false 0 [mt 4]) (.ret false []))))))))⟩
def b11_0 : ACode := (.seq (.seq (.region false 0 [mv 6 5, mv 7 0, len 8 7, lss 9 6 8]) (.cond (.s 9) .skip (.exit 0 false [0, 2, 3, 4, 5, 6, 7, 8, 9, 10, 11, 12, 13, 14, 15, 16, 17, 18]))) (.seq (.block 1 (.seq (.region false 0 [mv 12 0, mv 13 5, mv 14 1, ia 15 1 12 13, sto 1 15 14]) (.region false 0 [mv 16 1, adc 17 16 1, mv 1 17]))) (.region false 0 [mv 10 5, adc 11 10 1, mv 5 11])))
def d11_0 : List Nat := [2, 3, 4, 6, 7, 8, 9, 10, 11, 12, 13, 14, 15, 16, 17, 18]
def l11_0 : ACode := .loop false d11_0 b11_0
/-- loop.example/g00399/laws.markIntS -/
def a11 : AFun := ⟨19, [.tmp 4], (.seq (.region false 0 [mi 4 0]) (.seq (.seq (.region false 0 [mi 5 0]) (.block 0 l11_0)) (.seq (.region false 0 [mv 18 1, mv 4 18]) (.ret false []))))⟩
def b55_0 : ACode := (.seq (.seq (.region false 0 [mv 6 5, mv 7 0, len 8 7, lss 9 6 8]) (.cond (.s 9) .skip (.exit 0 false [0, 2, 3, 4, 5, 6, 7, 8, 9, 10, 11, 12, 13, 14, 15, 16, 17, 18]))) (.seq (.block 1 (.region false 0 [mv 12 0, mv 13 5, ia 14 1 12 13, ld 15 1 14, mv 16 1, ⟨some 17, none, .thru 11 [(.s 15), (.s 16)]⟩, mv 1 17])) (.region false 0 [mv 10 5, adc 11 10 1, mv 5 11])))
def d55_0 : List Nat := [2, 3, 4, 6, 7, 8, 9, 10, 11, 12, 13, 14, 15, 16, 17, 18]
def l55_0 : ACode := .loop false d55_0 b55_0
/-- loop.example/g00399/laws.markIntSS -/
def a55 : AFun := ⟨19, [.tmp 4], (.seq (.region false 0 [mi 4 0]) (.seq (.seq (.region false 0 [mi 5 0]) (.block 0 l55_0)) (.seq (.region false 0 [mv 18 1, mv 4 18]) (.ret false []))))⟩
def b56_0 : ACode := (.seq (.seq (.region false 0 [mv 6 5, mv 7 0, len 8 7, lss 9 6 8]) (.cond (.s 9) .skip (.exit 0 false [0, 2, 3, 4, 5, 6, 7, 8, 9, 10, 11, 12, 13, 14, 15, 16, 17, 18, 19]))) (.seq (.block 1 (.seq (.region false 0 [mv 12 0, mv 13 5, mv 14 1, ⟨some 15, none, .conv .u8 (.s 14)⟩, ia 16 1 12 13, sto 1 16 15]) (.region false 0 [mv 17 1, adc 18 17 1, mv 1 18]))) (.region false 0 [mv 10 5, adc 11 10 1, mv 5 11])))
def d56_0 : List Nat := [2, 3, 4, 6, 7, 8, 9, 10, 11, 12, 13, 14, 15, 16, 17, 18, 19]
def l56_0 : ACode := .loop false d56_0 b56_0
/-- loop.example/g00399/laws.markByteS -/
def a56 : AFun := ⟨20, [.tmp 4], (.seq (.region false 0 [mi 4 0]) (.seq (.seq (.region false 0 [mi 5 0]) (.block 0 l56_0)) (.seq (.region false 0 [mv 19 1, mv 4 19]) (.ret false []))))⟩
def b57_0 : ACode := (.seq (.seq (.region false 0 [mv 6 5, mv 7 0, len 8 7, lss 9 6 8]) (.cond (.s 9) .skip (.exit 0 false [0, 2, 3, 4, 5, 6, 7, 8, 9, 10, 11, 12, 13, 14, 15, 16, 17, 18, 19, 20]))) (.seq (.block 1 (.seq (.region false 0 [mv 12 0, mv 13 5, mv 14 1, ⟨some 15, none, .bin .rem (.s 14) (.c (.int .i64 3))⟩, ⟨some 16, none, .bin .eql (.s 15) (.c (.int .i64 0))⟩, ia 17 1 12 13, sto 1 17 16]) (.region false 0 [mv 18 1, adc 19 18 1, mv 1 19]))) (.region false 0 [mv 10 5, adc 11 10 1, mv 5 11])))
def d57_0 : List Nat := [2, 3, 4, 6, 7, 8, 9, 10, 11, 12, 13, 14, 15, 16, 17, 18, 19, 20]
def l57_0 : ACode := .loop false d57_0 b57_0
/-- loop.example/g00399/laws.markBoolS -/
def a57 : AFun := ⟨21, [.tmp 4], (.seq (.region false 0 [mi 4 0]) (.seq (.seq (.region false 0 [mi 5 0]) (.block 0 l57_0)) (.seq (.region false 0 [mv 20 1, mv 4 20]) (.ret false []))))⟩
def b32_0 : ACode := (.seq (.seq (.region false 0 [mv 6 5, mv 7 0, len 8 7, lss 9 6 8]) (.cond (.s 9) .skip (.exit 0 false [0, 2, 3, 4, 5, 6, 7, 8, 9, 10, 11, 12, 13, 14, 15, 16, 17, 18, 19, 20, 21, 22, 23, 24, 25, 26, 27, 28, 29, 30, 31, 32, 33, 34, 35, 36, 37, 38, 39, 40, 41, 42, 43, 44, 45, 46, 47, 48, 49, 50, 51, 52, 53, 54, 55, 56, 57, 58, 59, 60, 61, 62, 63, 64, 65, 66, 67, 68, 69, 70, 71, 72, 73, 74, 75, 76, 77, 78, 79, 80, 81, 82, 83, 84, 85, 86, 87, 88, 89, 90, 91, 92, 93, 94, 95, 96, 97, 98, 99, 100, 101, 102, 103, 104, 105, 106, 107, 108, 109, 110, 111, 112, 113, 114, 115, 116, 117, 118, 119, 120, 121, 122, 123, 124, 125, 126, 127, 128, 129, 130, 131, 132, 133, 134, 135, 136, 137, 138, 139, 140, 141, 142]))) (.seq (.block 1 (.seq (.region false 0 [mv 12 0, mv 13 5, mv 14 1, ia 15 16 12 13, fa 16 0 15, sto 1 16 14]) (.seq (.region false 0 [mv 17 1, adc 18 17 1, mv 1 18]) (.seq (.region false 0 [mv 19 0, mv 20 5, mv 21 1, ⟨some 22, none, .bin .rem (.s 21) (.c (.int .i64 3))⟩, ⟨some 23, none, .bin .eql (.s 22) (.c (.int .i64 0))⟩, ia 24 16 19 20, fa 25 1 24, sto 1 25 23]) (.seq (.region false 0 [mv 26 1, adc 27 26 1, mv 1 27]) (.seq (.region false 0 [mv 28 0, mv 29 5, mv 30 1, ⟨some 31, none, .bin .rem (.s 30) (.c (.int .i64 3))⟩, ⟨some 32, none, .bin .eql (.s 31) (.c (.int .i64 0))⟩, ia 33 16 28 29, fa 34 2 33, sto 1 34 32]) (.seq (.region false 0 [mv 35 1, adc 36 35 1, mv 1 36]) (.seq (.region false 0 [mv 37 0, mv 38 5, ia 39 16 37 38, fa 40 3 39, ld 41 1 40, mv 42 1, ⟨some 43, none, .thru 11 [(.s 41), (.s 42)]⟩, mv 1 43]) (.seq (.region false 0 [mv 44 0, mv 45 5, ia 46 16 44 45, fa 47 4 46, fa 48 0 47, ld 49 1 48, mv 50 1, ⟨some 51, none, .thru 11 [(.s 49), (.s 50)]⟩, mv 1 51]) (.seq (.region false 0 [mv 52 0, mv 53 5, ia 54 16 52 53, fa 55 4 54, fa 56 1 55, ld 57 1 56, mv 58 1, ⟨some 59, none, .thru 55 [(.s 57), (.s 58)]⟩, mv 1 59]) (.seq (.region false 0 [mv 60 0, mv 61 5, mv 62 1, ⟨some 63, none, .bin .rem (.s 62) (.c (.int .i64 3))⟩, ⟨some 64, none, .bin .eql (.s 63) (.c (.int .i64 0))⟩, ia 65 16 60 61, fa 66 4 65, fa 67 2 66, sto 1 67 64]) (.seq (.region false 0 [mv 68 1, adc 69 68 1, mv 1 69]) (.seq (.region false 0 [mv 70 0, mv 71 5, mv 72 1, ⟨some 73, none, .bin .rem (.s 72) (.c (.int .i64 3))⟩, ⟨some 74, none, .bin .eql (.s 73) (.c (.int .i64 0))⟩, ia 75 16 70 71, fa 76 4 75, fa 77 3 76, sto 1 77 74]) (.seq (.region false 0 [mv 78 1, adc 79 78 1, mv 1 79]) (.seq (.region false 0 [mv 80 0, mv 81 5, mv 82 1, ⟨some 83, none, .bin .rem (.s 82) (.c (.int .i64 3))⟩, ⟨some 84, none, .bin .eql (.s 83) (.c (.int .i64 0))⟩, ia 85 16 80 81, fa 86 4 85, fa 87 4 86, sto 1 87 84]) (.seq (.region false 0 [mv 88 1, adc 89 88 1, mv 1 89]) (.seq (.region false 0 [mv 90 0, mv 91 5, mv 92 1, ia 93 16 90 91, fa 94 4 93, fa 95 5 94, sto 1 95 92]) (.seq (.region false 0 [mv 96 1, adc 97 96 1, mv 1 97]) (.seq (.region false 0 [mv 98 0, mv 99 5, ia 100 16 98 99, fa 101 10 100, fa 102 0 101, ld 103 1 102, mv 104 1, ⟨some 105, none, .thru 56 [(.s 103), (.s 104)]⟩, mv 1 105]) (.seq (.region false 0 [mv 106 0, mv 107 5, ia 108 16 106 107, fa 109 10 108, fa 110 1 109, ld 111 1 110, mv 112 1, ⟨some 113, none, .thru 56 [(.s 111), (.s 112)]⟩, mv 1 113]) (.seq (.region false 0 [mv 114 0, mv 115 5, ia 116 16 114 115, fa 117 12 116, ld 118 1 117, mv 119 1, ⟨some 120, none, .thru 57 [(.s 118), (.s 119)]⟩, mv 1 120]) (.seq (.region false 0 [mv 121 0, mv 122 5, ia 123 16 121 122, fa 124 13 123, ld 125 1 124, mv 126 1, ⟨some 127, none, .thru 55 [(.s 125), (.s 126)]⟩, mv 1 127]) (.seq (.region false 0 [mv 128 0, mv 129 5, ia 130 16 128 129, fa 131 14 130, ld 132 1 131, mv 133 1, ⟨some 134, none, .thru 57 [(.s 132), (.s 133)]⟩, mv 1 134]) (.region false 0 [mv 135 0, mv 136 5, ia 137 16 135 136, fa 138 15 137, ld 139 1 138, mv 140 1, ⟨some 141, none, .thru 11 [(.s 139), (.s 140)]⟩, mv 1 141])))))))))))))))))))))))) (.region false 0 [mv 10 5, adc 11 10 1, mv 5 11])))
def d32_0 : List Nat := [2, 3, 4, 6, 7, 8, 9, 10, 11, 12, 13, 14, 15, 16, 17, 18, 19, 20, 21, 22, 23, 24, 25, 26, 27, 28, 29, 30, 31, 32, 33, 34, 35, 36, 37, 38, 39, 40, 41, 42, 43, 44, 45, 46, 47, 48, 49, 50, 51, 52, 53, 54, 55, 56, 57, 58, 59, 60, 61, 62, 63, 64, 65, 66, 67, 68, 69, 70, 71, 72, 73, 74, 75, 76, 77, 78, 79, 80, 81, 82, 83, 84, 85, 86, 87, 88, 89, 90, 91, 92, 93, 94, 95, 96, 97, 98, 99, 100, 101, 102, 103, 104, 105, 106, 107, 108, 109, 110, 111, 112, 113, 114, 115, 116, 117, 118, 119, 120, 121, 122, 123, 124, 125, 126, 127, 128, 129, 130, 131, 132, 133, 134, 135, 136, 137, 138, 139, 140, 141, 142]
def l32_0 : ACode := .loop false d32_0 b32_0
/-- loop.example/g00399/laws.markNodeS -/
def a32 : AFun := ⟨143, [.tmp 4], (.seq (.region false 0 [mi 4 0]) (.seq (.seq (.region false 0 [mi 5 0]) (.block 0 l32_0)) (.seq (.region false 0 [mv 142 1, mv 4 142]) (.ret false []))))⟩
def b33_0 : ACode := (.seq (.seq (.region false 0 [mv 6 5, mv 7 0, len 8 7, lss 9 6 8]) (.cond (.s 9) .skip (.exit 0 false [0, 2, 3, 4, 5, 6, 7, 8, 9, 10, 11, 12, 13, 14, 15, 16, 17, 18, 19, 20, 21, 22, 23, 24, 25, 26, 27, 28, 29, 30, 31, 32, 33]))) (.seq (.block 1 (.seq (.region false 0 [mv 12 0, mv 13 5, mv 14 1, ia 15 3 12 13, fa 16 0 15, sto 1 16 14]) (.seq (.region false 0 [mv 17 1, adc 18 17 1, mv 1 18]) (.seq (.region false 0 [mv 19 0, mv 20 5, mv 21 1, ia 22 3 19 20, fa 23 1 22, sto 1 23 21]) (.seq (.region false 0 [mv 24 1, adc 25 24 1, mv 1 25]) (.region false 0 [mv 26 0, mv 27 5, ia 28 3 26 27, fa 29 2 28, ld 30 1 29, mv 31 1, ⟨some 32, none, .thru 56 [(.s 30), (.s 31)]⟩, mv 1 32])))))) (.region false 0 [mv 10 5, adc 11 10 1, mv 5 11])))
def d33_0 : List Nat := [2, 3, 4, 6, 7, 8, 9, 10, 11, 12, 13, 14, 15, 16, 17, 18, 19, 20, 21, 22, 23, 24, 25, 26, 27, 28, 29, 30, 31, 32, 33]
def l33_0 : ACode := .loop false d33_0 b33_0
/-- loop.example/g00399/laws.markWireS -/
def a33 : AFun := ⟨34, [.tmp 4], (.seq (.region false 0 [mi 4 0]) (.seq (.seq (.region false 0 [mi 5 0]) (.block 0 l33_0)) (.seq (.region false 0 [mv 33 1, mv 4 33]) (.ret false []))))⟩
def b34_0 : ACode := (.seq (.seq (.region false 0 [mv 6 5, mv 7 0, len 8 7, lss 9 6 8]) (.cond (.s 9) .skip (.exit 0 false [0, 2, 3, 4, 5, 6, 7, 8, 9, 10, 11, 12, 13, 14, 15, 16, 17, 18, 19, 20, 21, 22, 23, 24, 25, 26]))) (.seq (.block 1 (.seq (.region false 0 [mv 12 0, mv 13 5, mv 14 1, ia 15 2 12 13, fa 16 0 15, sto 1 16 14]) (.seq (.region false 0 [mv 17 1, adc 18 17 1, mv 1 18]) (.seq (.region false 0 [mv 19 0, mv 20 5, mv 21 1, ia 22 2 19 20, fa 23 1 22, sto 1 23 21]) (.region false 0 [mv 24 1, adc 25 24 1, mv 1 25]))))) (.region false 0 [mv 10 5, adc 11 10 1, mv 5 11])))
def d34_0 : List Nat := [2, 3, 4, 6, 7, 8, 9, 10, 11, 12, 13, 14, 15, 16, 17, 18, 19, 20, 21, 22, 23, 24, 25, 26]
def l34_0 : ACode := .loop false d34_0 b34_0
/-- loop.example/g00399/laws.markRecS -/
def a34 : AFun := ⟨27, [.tmp 4], (.seq (.region false 0 [mi 4 0]) (.seq (.seq (.region false 0 [mi 5 0]) (.block 0 l34_0)) (.seq (.region false 0 [mv 26 1, mv 4 26]) (.ret false []))))⟩
/-- loop.example/g00399/laws.markWorld -/
def a10 : AFun := ⟨22, [.tmp 4], (.seq (.region false 0 [bx 2 5 0, mi 4 0]) (.seq (.region false 0 [fa 5 0 2, ld 6 1 5, mv 7 1, ⟨some 8, none, .thru 32 [(.s 6), (.s 7)]⟩, mv 1 8]) (.seq (.region false 0 [fa 9 1 2, ld 10 1 9, mv 11 1, ⟨some 12, none, .thru 33 [(.s 10), (.s 11)]⟩, mv 1 12]) (.seq (.region false 0 [fa 13 2 2, ld 14 1 13, mv 15 1, ⟨some 16, none, .thru 34 [(.s 14), (.s 15)]⟩, mv 1 16]) (.seq (.region false 0 [fa 17 3 2, ld 18 1 17, mv 19 1, ⟨some 20, none, .thru 11 [(.s 18), (.s 19)]⟩, mv 1 20]) (.seq (.region false 0 [mv 21 1, mv 4 21]) (.ret false [])))))))⟩
def b12_0 : ACode := (.seq (.seq (.region false 0 [mv 6 5, mv 7 0, len 8 7, lss 9 6 8]) (.cond (.s 9) .skip (.exit 0 true [0, 2, 3, 4, 5, 6, 7, 8, 9, 10, 11, 12, 13, 14, 15, 16, 17, 18, 19, 20]))) (.seq (.block 1 (.seq (.seq (.region false 0 [mv 12 0, mv 13 5, ia 14 1 12 13, ld 15 1 14, mv 16 1, nes 17 15 16]) (.cond (.s 17) (.seq (.region false 0 [mi 4 (-1)]) (.ret true [0, 1, 2, 3, 5, 6, 7, 8, 9, 10, 11, 12, 13, 14, 15, 16, 17, 18, 19, 20])) .skip)) (.region false 0 [mv 18 1, adc 19 18 1, mv 1 19]))) (.region false 0 [mv 10 5, adc 11 10 1, mv 5 11])))
def d12_0 : List Nat := [2, 3, 4, 6, 7, 8, 9, 10, 11, 12, 13, 14, 15, 16, 17, 18, 19, 20]
def l12_0 : ACode := .loop true d12_0 b12_0
/-- loop.example/g00399/laws.heldIntS -/
def a12 : AFun := ⟨21, [.tmp 4], (.seq (.region false 0 [mi 4 0]) (.seq (.seq (.region false 0 [mi 5 0]) (.block 0 l12_0)) (.seq (.region false 0 [mv 20 1, mv 4 20]) (.ret false []))))⟩
/-- loop.example/g00399/laws.FnExactCheckPair -/
def a3 : AFun := ⟨106, [.tmp 6], (.seq (.region false 0 [bx 3 5 0, mf 6]) (.seq (.region false 0 [mi 7 1048576]) (.seq (.region false 0 [lt 18 5 3, mv 19 7, ⟨some 20, none, .call 4 [((.s 18), [16, 3, 2, 1, 1]), ((.s 19), [1])]⟩, mv 7 20]) (.seq (.seq (.region false 0 [mv 21 7, lsc 22 21 0]) (.cond (.s 22) (.seq (.region false 0 [mt 6]) (.ret false [])) .skip)) (.seq (.region false 0 [lt 24 5 3, ⟨some 25, none, .call 6 [((.s 24), [16, 3, 2, 1, 1])]⟩, mv 26 1, mv 27 2, ⟨some 28, none, .call 5 [((.s 25), [16, 3, 2, 1, 1]), ((.s 26), [1]), ((.s 27), [1])]⟩, mv 23 28, ex 29 23 0, ex 30 23 1, mv 8 29, mv 9 30]) (.seq (.region false 0 [lt 31 5 3, ⟨some 32, none, .call 6 [((.s 31), [16, 3, 2, 1, 1])]⟩, ⟨some 10, none, .alc [.nil, .nil, .nil, .nil, .int .i64 0]⟩, sto 5 10 32]) (.seq (.region false 0 [lt 34 5 10, mv 35 1, mv 36 2, ⟨some 37, none, .call 7 [((.s 34), [16, 3, 2, 1, 1]), ((.s 35), [1]), ((.s 36), [1])]⟩, mv 33 37, ex 38 33 0, ex 39 33 1, mv 11 38, mv 12 39]) (.seq (.seq (.region false 0 [mv 40 11, mv 41 8, cd 42 8 40 1 41 1, nt 43 42, mv 44 43, mvo 45 44 12, mvo 46 44 9, ⟨some 47, (some (44, false)), .bin .neq (.s 45) (.s 46)⟩, pkt 48 44 47]) (.cond (.s 48) (.seq (.region false 0 [mf 6]) (.ret false [])) .skip)) (.seq (.seq (.region true 5 [lt 49 5 10, lt 50 5 3, ⟨some 51, none, .call 6 [((.s 50), [16, 3, 2, 1, 1])]⟩, ⟨some 52, none, .call 9 [((.s 49), [16, 3, 2, 1, 1]), ((.s 51), [16, 3, 2, 1, 1])]⟩, nt 53 52]) (.cond (.s 53) (.seq (.region false 0 [mf 6]) (.ret false [])) .skip)) (.seq (.region false 0 [mi 13 1]) (.seq (.region false 0 [lt 54 5 10, mv 55 13, ⟨some 56, none, .thru 10 [(.s 54), (.s 55)]⟩, mv 13 56]) (.seq (.seq (.region false 0 [mv 57 13, lsc 58 57 0, mv 59 58, mvo 60 59 11, mvo 61 59 8, ⟨some 62, (some (59, false)), .call 8 [((.s 60), [1]), ((.s 61), [1])]⟩, nto 63 59 62, pkt 64 59 63, mv 65 64, mvo 66 65 12, mvo 67 65 9, ⟨some 68, (some (65, false)), .bin .neq (.s 66) (.s 67)⟩, pkt 69 65 68]) (.cond (.s 69) (.seq (.region false 0 [mf 6]) (.ret false [])) .skip)) (.seq (.region false 0 [mi 14 1]) (.seq (.region false 0 [mv 70 11, mv 71 14, ⟨some 72, none, .thru 11 [(.s 70), (.s 71)]⟩, mv 14 72]) (.seq (.region false 0 [mi 15 1]) (.seq (.region false 0 [mv 73 11, mv 74 15, cd 75 12 73 1 74 1, mv 15 75]) (.seq (.seq (.region false 0 [mv 76 15, lsc 77 76 0]) (.cond (.s 77) (.seq (.region false 0 [mf 6]) (.ret false [])) .skip)) (.seq (.seq (.region false 0 [mv 78 15, mv 79 14, nes 80 78 79]) (.cond (.s 80) (.seq (.region false 0 [mf 6]) (.ret false [])) .skip)) (.seq (.region false 0 [lt 82 5 3, ⟨some 83, none, .call 6 [((.s 82), [16, 3, 2, 1, 1])]⟩, mv 84 1, mv 85 2, ⟨some 86, none, .call 7 [((.s 83), [16, 3, 2, 1, 1]), ((.s 84), [1]), ((.s 85), [1])]⟩, mv 81 86, ex 87 81 0, ex 88 81 1, mv 16 87, mv 17 88]) (.seq (.seq (.region false 0 [mv 89 16, mv 90 8, cd 91 8 89 1 90 1, nt 92 91, mv 93 92, mvo 94 93 17, mvo 95 93 9, ⟨some 96, (some (93, false)), .bin .neq (.s 94) (.s 95)⟩, pkt 97 93 96]) (.cond (.s 97) (.seq (.region false 0 [mf 6]) (.ret false [])) .skip)) (.seq (.region false 0 [mi 15 1]) (.seq (.region false 0 [mv 98 11, mv 99 15, cd 100 12 98 1 99 1, mv 15 100]) (.seq (.seq (.region false 0 [mv 101 15, lsc 102 101 0]) (.cond (.s 102) (.seq (.region false 0 [mf 6]) (.ret false [])) .skip)) (.seq (.seq (.region false 0 [mv 103 15, mv 104 14, nes 105 103 104]) (.cond (.s 105) (.seq (.region false 0 [mf 6]) (.ret false [])) .skip)) (.seq (.region false 0 [mt 6]) (.ret false []))))))))))))))))))))))))))⟩
def tab : FuncId → Option AFun := fun f => match f with
  | 16 => some a16
  | 61 => some a61
  | 58 => some a58
  | 62 => some a62
  | 59 => some a59
  | 60 => some a60
  | 35 => some a35
  | 13 => some a13
  | 36 => some a36
  | 14 => some a14
  | 15 => some a15
  | 4 => some a4
  | 24 => some a24
  | 72 => some a72
  | 69 => some a69
  | 73 => some a73
  | 70 => some a70
  | 71 => some a71
  | 42 => some a42
  | 21 => some a21
  | 43 => some a43
  | 22 => some a22
  | 44 => some a44
  | 23 => some a23
  | 6 => some a6
  | 18 => some a18
  | 39 => some a39
  | 86 => some a86
  | 97 => some a97
  | 87 => some a87
  | 63 => some a63
  | 64 => some a64
  | 114 => some a114
  | 108 => some a108
  | 107 => some a107
  | 68 => some a68
  | 115 => some a115
  | 109 => some a109
  | 98 => some a98
  | 110 => some a110
  | 99 => some a99
  | 89 => some a89
  | 88 => some a88
  | 65 => some a65
  | 90 => some a90
  | 66 => some a66
  | 37 => some a37
  | 38 => some a38
  | 17 => some a17
  | 67 => some a67
  | 41 => some a41
  | 20 => some a20
  | 40 => some a40
  | 19 => some a19
  | 5 => some a5
  | 46 => some a46
  | 26 => some a26
  | 96 => some a96
  | 75 => some a75
  | 77 => some a77
  | 48 => some a48
  | 116 => some a116
  | 111 => some a111
  | 100 => some a100
  | 112 => some a112
  | 101 => some a101
  | 47 => some a47
  | 103 => some a103
  | 102 => some a102
  | 92 => some a92
  | 91 => some a91
  | 124 => some a124
  | 121 => some a121
  | 120 => some a120
  | 80 => some a80
  | 126 => some a126
  | 125 => some a125
  | 127 => some a127
  | 122 => some a122
  | 118 => some a118
  | 117 => some a117
  | 123 => some a123
  | 119 => some a119
  | 113 => some a113
  | 104 => some a104
  | 93 => some a93
  | 105 => some a105
  | 106 => some a106
  | 94 => some a94
  | 95 => some a95
  | 74 => some a74
  | 76 => some a76
  | 45 => some a45
  | 25 => some a25
  | 79 => some a79
  | 51 => some a51
  | 28 => some a28
  | 78 => some a78
  | 49 => some a49
  | 50 => some a50
  | 27 => some a27
  | 7 => some a7
  | 8 => some a8
  | 84 => some a84
  | 81 => some a81
  | 85 => some a85
  | 82 => some a82
  | 83 => some a83
  | 52 => some a52
  | 29 => some a29
  | 53 => some a53
  | 30 => some a30
  | 54 => some a54
  | 31 => some a31
  | 9 => some a9
  | 11 => some a11
  | 55 => some a55
  | 56 => some a56
  | 57 => some a57
  | 32 => some a32
  | 33 => some a33
  | 34 => some a34
  | 10 => some a10
  | 12 => some a12
  | 3 => some a3
  | _ => none
/-- What is to be shown of each function. -/
def okf (f : FuncId) (a : AFun) : Prop := Node Tryz.prog f a.body ∧ ∃ fn c, Tryz.prog.funcs[f]? = some fn ∧ fn.body = some c ∧ fn.name ≠ "runtime.NumGoroutine" ∧ fn.ntmps = a.n ∧ chkRes Tryz.prog fn.results.toList a.res = true ∧ chkCode Tryz.prog c a.body = true
theorem ok16 : okf 16 a16 := ⟨trivial, Tryz.f16, _, Tryz.func16, rfl, by decide, rfl, by decide +kernel, by decide +kernel⟩
theorem ok61 : okf 61 a61 := ⟨trivial, Tryz.f61, _, Tryz.func61, rfl, by decide, rfl, by decide +kernel, by decide +kernel⟩
theorem ok58 : okf 58 a58 := ⟨trivial, Tryz.f58, _, Tryz.func58, rfl, by decide, rfl, by decide +kernel, by decide +kernel⟩
theorem ok62 : okf 62 a62 := ⟨trivial, Tryz.f62, _, Tryz.func62, rfl, by decide, rfl, by decide +kernel, by decide +kernel⟩
theorem ok59 : okf 59 a59 := ⟨trivial, Tryz.f59, _, Tryz.func59, rfl, by decide, rfl, by decide +kernel, by decide +kernel⟩
theorem ok60 : okf 60 a60 := ⟨trivial, Tryz.f60, _, Tryz.func60, rfl, by decide, rfl, by decide +kernel, by decide +kernel⟩
theorem ok35 : okf 35 a35 := ⟨trivial, Tryz.f35, _, Tryz.func35, rfl, by decide, rfl, by decide +kernel, by decide +kernel⟩
theorem ok13 : okf 13 a13 := ⟨trivial, Tryz.f13, _, Tryz.func13, rfl, by decide, rfl, by decide +kernel, by decide +kernel⟩
theorem ok36 : okf 36 a36 := ⟨trivial, Tryz.f36, _, Tryz.func36, rfl, by decide, rfl, by decide +kernel, by decide +kernel⟩
theorem ok14 : okf 14 a14 := ⟨trivial, Tryz.f14, _, Tryz.func14, rfl, by decide, rfl, by decide +kernel, by decide +kernel⟩
theorem ok15 : okf 15 a15 := ⟨trivial, Tryz.f15, _, Tryz.func15, rfl, by decide, rfl, by decide +kernel, by decide +kernel⟩
theorem ok4 : okf 4 a4 := ⟨trivial, Tryz.f4, _, Tryz.func4, rfl, by decide, rfl, by decide +kernel, by decide +kernel⟩
theorem ok24 : okf 24 a24 := ⟨trivial, Tryz.f24, _, Tryz.func24, rfl, by decide, rfl, by decide +kernel, by decide +kernel⟩
theorem ok72 : okf 72 a72 := ⟨trivial, Tryz.f72, _, Tryz.func72, rfl, by decide, rfl, by decide +kernel, by decide +kernel⟩
theorem ok69 : okf 69 a69 := ⟨trivial, Tryz.f69, _, Tryz.func69, rfl, by decide, rfl, by decide +kernel, by decide +kernel⟩
theorem ok73 : okf 73 a73 := ⟨trivial, Tryz.f73, _, Tryz.func73, rfl, by decide, rfl, by decide +kernel, by decide +kernel⟩
theorem ok70 : okf 70 a70 := ⟨trivial, Tryz.f70, _, Tryz.func70, rfl, by decide, rfl, by decide +kernel, by decide +kernel⟩
theorem ok71 : okf 71 a71 := ⟨trivial, Tryz.f71, _, Tryz.func71, rfl, by decide, rfl, by decide +kernel, by decide +kernel⟩
theorem ok42 : okf 42 a42 := ⟨trivial, Tryz.f42, _, Tryz.func42, rfl, by decide, rfl, by decide +kernel, by decide +kernel⟩
theorem ok21 : okf 21 a21 := ⟨trivial, Tryz.f21, _, Tryz.func21, rfl, by decide, rfl, by decide +kernel, by decide +kernel⟩
theorem ok43 : okf 43 a43 := ⟨trivial, Tryz.f43, _, Tryz.func43, rfl, by decide, rfl, by decide +kernel, by decide +kernel⟩
theorem ok22 : okf 22 a22 := ⟨trivial, Tryz.f22, _, Tryz.func22, rfl, by decide, rfl, by decide +kernel, by decide +kernel⟩
theorem ok44 : okf 44 a44 := ⟨trivial, Tryz.f44, _, Tryz.func44, rfl, by decide, rfl, by decide +kernel, by decide +kernel⟩
theorem ok23 : okf 23 a23 := ⟨trivial, Tryz.f23, _, Tryz.func23, rfl, by decide, rfl, by decide +kernel, by decide +kernel⟩
theorem ok6 : okf 6 a6 := ⟨trivial, Tryz.f6, _, Tryz.func6, rfl, by decide, rfl, by decide +kernel, by decide +kernel⟩
theorem ok18 : okf 18 a18 := ⟨trivial, Tryz.f18, _, Tryz.func18, rfl, by decide, rfl, by decide +kernel, by decide +kernel⟩
theorem ok39 : okf 39 a39 := ⟨trivial, Tryz.f39, _, Tryz.func39, rfl, by decide, rfl, by decide +kernel, by decide +kernel⟩
theorem ok86 : okf 86 a86 := ⟨trivial, Tryz.f86, _, Tryz.func86, rfl, by decide, rfl, by decide +kernel, by decide +kernel⟩
theorem ok97 : okf 97 a97 := ⟨trivial, Tryz.f97, _, Tryz.func97, rfl, by decide, rfl, by decide +kernel, by decide +kernel⟩
theorem ok87 : okf 87 a87 := ⟨trivial, Tryz.f87, _, Tryz.func87, rfl, by decide, rfl, by decide +kernel, by decide +kernel⟩
theorem ok63 : okf 63 a63 := ⟨trivial, Tryz.f63, _, Tryz.func63, rfl, by decide, rfl, by decide +kernel, by decide +kernel⟩
theorem ok64 : okf 64 a64 := ⟨trivial, Tryz.f64, _, Tryz.func64, rfl, by decide, rfl, by decide +kernel, by decide +kernel⟩
theorem ok114 : okf 114 a114 := ⟨trivial, Tryz.f114, _, Tryz.func114, rfl, by decide, rfl, by decide +kernel, by decide +kernel⟩
theorem ok108 : okf 108 a108 := ⟨trivial, Tryz.f108, _, Tryz.func108, rfl, by decide, rfl, by decide +kernel, by decide +kernel⟩
theorem ok107 : okf 107 a107 := ⟨trivial, Tryz.f107, _, Tryz.func107, rfl, by decide, rfl, by decide +kernel, by decide +kernel⟩
theorem ok68 : okf 68 a68 := ⟨trivial, Tryz.f68, _, Tryz.func68, rfl, by decide, rfl, by decide +kernel, by decide +kernel⟩
theorem ok115 : okf 115 a115 := ⟨trivial, Tryz.f115, _, Tryz.func115, rfl, by decide, rfl, by decide +kernel, by decide +kernel⟩
theorem ok109 : okf 109 a109 := ⟨trivial, Tryz.f109, _, Tryz.func109, rfl, by decide, rfl, by decide +kernel, by decide +kernel⟩
theorem ok98 : okf 98 a98 := ⟨trivial, Tryz.f98, _, Tryz.func98, rfl, by decide, rfl, by decide +kernel, by decide +kernel⟩
theorem ok110 : okf 110 a110 := ⟨trivial, Tryz.f110, _, Tryz.func110, rfl, by decide, rfl, by decide +kernel, by decide +kernel⟩
theorem ok99 : okf 99 a99 := ⟨trivial, Tryz.f99, _, Tryz.func99, rfl, by decide, rfl, by decide +kernel, by decide +kernel⟩
theorem ok89 : okf 89 a89 := ⟨trivial, Tryz.f89, _, Tryz.func89, rfl, by decide, rfl, by decide +kernel, by decide +kernel⟩
theorem ok88 : okf 88 a88 := ⟨trivial, Tryz.f88, _, Tryz.func88, rfl, by decide, rfl, by decide +kernel, by decide +kernel⟩
theorem ok65 : okf 65 a65 := ⟨trivial, Tryz.f65, _, Tryz.func65, rfl, by decide, rfl, by decide +kernel, by decide +kernel⟩
theorem ok90 : okf 90 a90 := ⟨trivial, Tryz.f90, _, Tryz.func90, rfl, by decide, rfl, by decide +kernel, by decide +kernel⟩
theorem ok66 : okf 66 a66 := ⟨trivial, Tryz.f66, _, Tryz.func66, rfl, by decide, rfl, by decide +kernel, by decide +kernel⟩
theorem ok37 : okf 37 a37 := ⟨trivial, Tryz.f37, _, Tryz.func37, rfl, by decide, rfl, by decide +kernel, by decide +kernel⟩
theorem ok38 : okf 38 a38 := ⟨trivial, Tryz.f38, _, Tryz.func38, rfl, by decide, rfl, by decide +kernel, by decide +kernel⟩
theorem ok17 : okf 17 a17 := ⟨trivial, Tryz.f17, _, Tryz.func17, rfl, by decide, rfl, by decide +kernel, by decide +kernel⟩
theorem ok67 : okf 67 a67 := ⟨trivial, Tryz.f67, _, Tryz.func67, rfl, by decide, rfl, by decide +kernel, by decide +kernel⟩
theorem ok41 : okf 41 a41 := ⟨trivial, Tryz.f41, _, Tryz.func41, rfl, by decide, rfl, by decide +kernel, by decide +kernel⟩
theorem ok20 : okf 20 a20 := ⟨trivial, Tryz.f20, _, Tryz.func20, rfl, by decide, rfl, by decide +kernel, by decide +kernel⟩
theorem ok40 : okf 40 a40 := ⟨trivial, Tryz.f40, _, Tryz.func40, rfl, by decide, rfl, by decide +kernel, by decide +kernel⟩
theorem ok19 : okf 19 a19 := ⟨trivial, Tryz.f19, _, Tryz.func19, rfl, by decide, rfl, by decide +kernel, by decide +kernel⟩
theorem ok5 : okf 5 a5 := ⟨trivial, Tryz.f5, _, Tryz.func5, rfl, by decide, rfl, by decide +kernel, by decide +kernel⟩
theorem ok46 : okf 46 a46 := ⟨trivial, Tryz.f46, _, Tryz.func46, rfl, by decide, rfl, by decide +kernel, by decide +kernel⟩
theorem ok26 : okf 26 a26 := ⟨trivial, Tryz.f26, _, Tryz.func26, rfl, by decide, rfl, by decide +kernel, by decide +kernel⟩
theorem ok96 : okf 96 a96 := ⟨trivial, Tryz.f96, _, Tryz.func96, rfl, by decide, rfl, by decide +kernel, by decide +kernel⟩
theorem ok75 : okf 75 a75 := ⟨trivial, Tryz.f75, _, Tryz.func75, rfl, by decide, rfl, by decide +kernel, by decide +kernel⟩
theorem ok77 : okf 77 a77 := ⟨trivial, Tryz.f77, _, Tryz.func77, rfl, by decide, rfl, by decide +kernel, by decide +kernel⟩
theorem ok48 : okf 48 a48 := ⟨trivial, Tryz.f48, _, Tryz.func48, rfl, by decide, rfl, by decide +kernel, by decide +kernel⟩
theorem ok116 : okf 116 a116 := ⟨trivial, Tryz.f116, _, Tryz.func116, rfl, by decide, rfl, by decide +kernel, by decide +kernel⟩
theorem ok111 : okf 111 a111 := ⟨trivial, Tryz.f111, _, Tryz.func111, rfl, by decide, rfl, by decide +kernel, by decide +kernel⟩
theorem ok100 : okf 100 a100 := ⟨trivial, Tryz.f100, _, Tryz.func100, rfl, by decide, rfl, by decide +kernel, by decide +kernel⟩
theorem ok112 : okf 112 a112 := ⟨trivial, Tryz.f112, _, Tryz.func112, rfl, by decide, rfl, by decide +kernel, by decide +kernel⟩
theorem ok101 : okf 101 a101 := ⟨trivial, Tryz.f101, _, Tryz.func101, rfl, by decide, rfl, by decide +kernel, by decide +kernel⟩
theorem ok47 : okf 47 a47 := ⟨trivial, Tryz.f47, _, Tryz.func47, rfl, by decide, rfl, by decide +kernel, by decide +kernel⟩
theorem ok103 : okf 103 a103 := ⟨trivial, Tryz.f103, _, Tryz.func103, rfl, by decide, rfl, by decide +kernel, by decide +kernel⟩
theorem ok102 : okf 102 a102 := ⟨trivial, Tryz.f102, _, Tryz.func102, rfl, by decide, rfl, by decide +kernel, by decide +kernel⟩
theorem ok92 : okf 92 a92 := ⟨trivial, Tryz.f92, _, Tryz.func92, rfl, by decide, rfl, by decide +kernel, by decide +kernel⟩
theorem ok91 : okf 91 a91 := ⟨trivial, Tryz.f91, _, Tryz.func91, rfl, by decide, rfl, by decide +kernel, by decide +kernel⟩
theorem ok124 : okf 124 a124 := ⟨trivial, Tryz.f124, _, Tryz.func124, rfl, by decide, rfl, by decide +kernel, by decide +kernel⟩
theorem ok121 : okf 121 a121 := ⟨trivial, Tryz.f121, _, Tryz.func121, rfl, by decide, rfl, by decide +kernel, by decide +kernel⟩
theorem ok120 : okf 120 a120 := ⟨trivial, Tryz.f120, _, Tryz.func120, rfl, by decide, rfl, by decide +kernel, by decide +kernel⟩
theorem ok80 : okf 80 a80 := ⟨trivial, Tryz.f80, _, Tryz.func80, rfl, by decide, rfl, by decide +kernel, by decide +kernel⟩
theorem ok126 : okf 126 a126 := ⟨trivial, Tryz.f126, _, Tryz.func126, rfl, by decide, rfl, by decide +kernel, by decide +kernel⟩
theorem ok125 : okf 125 a125 := ⟨trivial, Tryz.f125, _, Tryz.func125, rfl, by decide, rfl, by decide +kernel, by decide +kernel⟩
theorem ok127 : okf 127 a127 := ⟨trivial, Tryz.f127, _, Tryz.func127, rfl, by decide, rfl, by decide +kernel, by decide +kernel⟩
theorem ok122 : okf 122 a122 := ⟨trivial, Tryz.f122, _, Tryz.func122, rfl, by decide, rfl, by decide +kernel, by decide +kernel⟩
theorem ok118 : okf 118 a118 := ⟨trivial, Tryz.f118, _, Tryz.func118, rfl, by decide, rfl, by decide +kernel, by decide +kernel⟩
theorem ok117 : okf 117 a117 := ⟨trivial, Tryz.f117, _, Tryz.func117, rfl, by decide, rfl, by decide +kernel, by decide +kernel⟩
theorem ok123 : okf 123 a123 := ⟨trivial, Tryz.f123, _, Tryz.func123, rfl, by decide, rfl, by decide +kernel, by decide +kernel⟩
theorem ok119 : okf 119 a119 := ⟨trivial, Tryz.f119, _, Tryz.func119, rfl, by decide, rfl, by decide +kernel, by decide +kernel⟩
theorem ok113 : okf 113 a113 := ⟨trivial, Tryz.f113, _, Tryz.func113, rfl, by decide, rfl, by decide +kernel, by decide +kernel⟩
theorem ok104 : okf 104 a104 := ⟨trivial, Tryz.f104, _, Tryz.func104, rfl, by decide, rfl, by decide +kernel, by decide +kernel⟩
theorem ok93 : okf 93 a93 := ⟨trivial, Tryz.f93, _, Tryz.func93, rfl, by decide, rfl, by decide +kernel, by decide +kernel⟩
theorem ok105 : okf 105 a105 := ⟨trivial, Tryz.f105, _, Tryz.func105, rfl, by decide, rfl, by decide +kernel, by decide +kernel⟩
theorem ok106 : okf 106 a106 := ⟨trivial, Tryz.f106, _, Tryz.func106, rfl, by decide, rfl, by decide +kernel, by decide +kernel⟩
theorem ok94 : okf 94 a94 := ⟨trivial, Tryz.f94, _, Tryz.func94, rfl, by decide, rfl, by decide +kernel, by decide +kernel⟩
theorem ok95 : okf 95 a95 := ⟨trivial, Tryz.f95, _, Tryz.func95, rfl, by decide, rfl, by decide +kernel, by decide +kernel⟩
theorem ok74 : okf 74 a74 := ⟨trivial, Tryz.f74, _, Tryz.func74, rfl, by decide, rfl, by decide +kernel, by decide +kernel⟩
theorem ok76 : okf 76 a76 := ⟨trivial, Tryz.f76, _, Tryz.func76, rfl, by decide, rfl, by decide +kernel, by decide +kernel⟩
theorem ok45 : okf 45 a45 := ⟨trivial, Tryz.f45, _, Tryz.func45, rfl, by decide, rfl, by decide +kernel, by decide +kernel⟩
theorem ok25 : okf 25 a25 := ⟨trivial, Tryz.f25, _, Tryz.func25, rfl, by decide, rfl, by decide +kernel, by decide +kernel⟩
theorem ok79 : okf 79 a79 := ⟨trivial, Tryz.f79, _, Tryz.func79, rfl, by decide, rfl, by decide +kernel, by decide +kernel⟩
theorem ok51 : okf 51 a51 := ⟨trivial, Tryz.f51, _, Tryz.func51, rfl, by decide, rfl, by decide +kernel, by decide +kernel⟩
theorem ok28 : okf 28 a28 := ⟨trivial, Tryz.f28, _, Tryz.func28, rfl, by decide, rfl, by decide +kernel, by decide +kernel⟩
theorem ok78 : okf 78 a78 := ⟨trivial, Tryz.f78, _, Tryz.func78, rfl, by decide, rfl, by decide +kernel, by decide +kernel⟩
theorem ok49 : okf 49 a49 := ⟨trivial, Tryz.f49, _, Tryz.func49, rfl, by decide, rfl, by decide +kernel, by decide +kernel⟩
theorem ok50 : okf 50 a50 := ⟨trivial, Tryz.f50, _, Tryz.func50, rfl, by decide, rfl, by decide +kernel, by decide +kernel⟩
theorem ok27 : okf 27 a27 := ⟨trivial, Tryz.f27, _, Tryz.func27, rfl, by decide, rfl, by decide +kernel, by decide +kernel⟩
theorem ok7 : okf 7 a7 := ⟨trivial, Tryz.f7, _, Tryz.func7, rfl, by decide, rfl, by decide +kernel, by decide +kernel⟩
theorem ok8 : okf 8 a8 := ⟨trivial, Tryz.f8, _, Tryz.func8, rfl, by decide, rfl, by decide +kernel, by decide +kernel⟩
theorem ok84 : okf 84 a84 := ⟨trivial, Tryz.f84, _, Tryz.func84, rfl, by decide, rfl, by decide +kernel, by decide +kernel⟩
theorem ok81 : okf 81 a81 := ⟨trivial, Tryz.f81, _, Tryz.func81, rfl, by decide, rfl, by decide +kernel, by decide +kernel⟩
theorem ok85 : okf 85 a85 := ⟨trivial, Tryz.f85, _, Tryz.func85, rfl, by decide, rfl, by decide +kernel, by decide +kernel⟩
theorem ok82 : okf 82 a82 := ⟨trivial, Tryz.f82, _, Tryz.func82, rfl, by decide, rfl, by decide +kernel, by decide +kernel⟩
theorem ok83 : okf 83 a83 := ⟨trivial, Tryz.f83, _, Tryz.func83, rfl, by decide, rfl, by decide +kernel, by decide +kernel⟩
theorem ok52 : okf 52 a52 := ⟨trivial, Tryz.f52, _, Tryz.func52, rfl, by decide, rfl, by decide +kernel, by decide +kernel⟩
theorem ok29 : okf 29 a29 := ⟨trivial, Tryz.f29, _, Tryz.func29, rfl, by decide, rfl, by decide +kernel, by decide +kernel⟩
theorem ok53 : okf 53 a53 := ⟨trivial, Tryz.f53, _, Tryz.func53, rfl, by decide, rfl, by decide +kernel, by decide +kernel⟩
theorem ok30 : okf 30 a30 := ⟨trivial, Tryz.f30, _, Tryz.func30, rfl, by decide, rfl, by decide +kernel, by decide +kernel⟩
theorem ok54 : okf 54 a54 := ⟨trivial, Tryz.f54, _, Tryz.func54, rfl, by decide, rfl, by decide +kernel, by decide +kernel⟩
theorem ok31 : okf 31 a31 := ⟨trivial, Tryz.f31, _, Tryz.func31, rfl, by decide, rfl, by decide +kernel, by decide +kernel⟩
theorem ok9 : okf 9 a9 := ⟨trivial, Tryz.f9, _, Tryz.func9, rfl, by decide, rfl, by decide +kernel, by decide +kernel⟩
theorem ok11 : okf 11 a11 := ⟨trivial, Tryz.f11, _, Tryz.func11, rfl, by decide, rfl, by decide +kernel, by decide +kernel⟩
theorem ok55 : okf 55 a55 := ⟨trivial, Tryz.f55, _, Tryz.func55, rfl, by decide, rfl, by decide +kernel, by decide +kernel⟩
theorem ok56 : okf 56 a56 := ⟨trivial, Tryz.f56, _, Tryz.func56, rfl, by decide, rfl, by decide +kernel, by decide +kernel⟩
theorem ok57 : okf 57 a57 := ⟨trivial, Tryz.f57, _, Tryz.func57, rfl, by decide, rfl, by decide +kernel, by decide +kernel⟩
theorem ok32 : okf 32 a32 := ⟨trivial, Tryz.f32, _, Tryz.func32, rfl, by decide, rfl, by decide +kernel, by decide +kernel⟩
theorem ok33 : okf 33 a33 := ⟨trivial, Tryz.f33, _, Tryz.func33, rfl, by decide, rfl, by decide +kernel, by decide +kernel⟩
theorem ok34 : okf 34 a34 := ⟨trivial, Tryz.f34, _, Tryz.func34, rfl, by decide, rfl, by decide +kernel, by decide +kernel⟩
theorem ok10 : okf 10 a10 := ⟨trivial, Tryz.f10, _, Tryz.func10, rfl, by decide, rfl, by decide +kernel, by decide +kernel⟩
theorem ok12 : okf 12 a12 := ⟨trivial, Tryz.f12, _, Tryz.func12, rfl, by decide, rfl, by decide +kernel, by decide +kernel⟩
theorem ok3 : okf 3 a3 := ⟨trivial, Tryz.f3, _, Tryz.func3, rfl, by decide, rfl, by decide +kernel, by decide +kernel⟩
theorem tabOk : TabOk Tryz.prog tab := by
  intro f af h
  unfold tab at h
  split at h
  · cases h; exact ok16
  · cases h; exact ok61
  · cases h; exact ok58
  · cases h; exact ok62
  · cases h; exact ok59
  · cases h; exact ok60
  · cases h; exact ok35
  · cases h; exact ok13
  · cases h; exact ok36
  · cases h; exact ok14
  · cases h; exact ok15
  · cases h; exact ok4
  · cases h; exact ok24
  · cases h; exact ok72
  · cases h; exact ok69
  · cases h; exact ok73
  · cases h; exact ok70
  · cases h; exact ok71
  · cases h; exact ok42
  · cases h; exact ok21
  · cases h; exact ok43
  · cases h; exact ok22
  · cases h; exact ok44
  · cases h; exact ok23
  · cases h; exact ok6
  · cases h; exact ok18
  · cases h; exact ok39
  · cases h; exact ok86
  · cases h; exact ok97
  · cases h; exact ok87
  · cases h; exact ok63
  · cases h; exact ok64
  · cases h; exact ok114
  · cases h; exact ok108
  · cases h; exact ok107
  · cases h; exact ok68
  · cases h; exact ok115
  · cases h; exact ok109
  · cases h; exact ok98
  · cases h; exact ok110
  · cases h; exact ok99
  · cases h; exact ok89
  · cases h; exact ok88
  · cases h; exact ok65
  · cases h; exact ok90
  · cases h; exact ok66
  · cases h; exact ok37
  · cases h; exact ok38
  · cases h; exact ok17
  · cases h; exact ok67
  · cases h; exact ok41
  · cases h; exact ok20
  · cases h; exact ok40
  · cases h; exact ok19
  · cases h; exact ok5
  · cases h; exact ok46
  · cases h; exact ok26
  · cases h; exact ok96
  · cases h; exact ok75
  · cases h; exact ok77
  · cases h; exact ok48
  · cases h; exact ok116
  · cases h; exact ok111
  · cases h; exact ok100
  · cases h; exact ok112
  · cases h; exact ok101
  · cases h; exact ok47
  · cases h; exact ok103
  · cases h; exact ok102
  · cases h; exact ok92
  · cases h; exact ok91
  · cases h; exact ok124
  · cases h; exact ok121
  · cases h; exact ok120
  · cases h; exact ok80
  · cases h; exact ok126
  · cases h; exact ok125
  · cases h; exact ok127
  · cases h; exact ok122
  · cases h; exact ok118
  · cases h; exact ok117
  · cases h; exact ok123
  · cases h; exact ok119
  · cases h; exact ok113
  · cases h; exact ok104
  · cases h; exact ok93
  · cases h; exact ok105
  · cases h; exact ok106
  · cases h; exact ok94
  · cases h; exact ok95
  · cases h; exact ok74
  · cases h; exact ok76
  · cases h; exact ok45
  · cases h; exact ok25
  · cases h; exact ok79
  · cases h; exact ok51
  · cases h; exact ok28
  · cases h; exact ok78
  · cases h; exact ok49
  · cases h; exact ok50
  · cases h; exact ok27
  · cases h; exact ok7
  · cases h; exact ok8
  · cases h; exact ok84
  · cases h; exact ok81
  · cases h; exact ok85
  · cases h; exact ok82
  · cases h; exact ok83
  · cases h; exact ok52
  · cases h; exact ok29
  · cases h; exact ok53
  · cases h; exact ok30
  · cases h; exact ok54
  · cases h; exact ok31
  · cases h; exact ok9
  · cases h; exact ok11
  · cases h; exact ok55
  · cases h; exact ok56
  · cases h; exact ok57
  · cases h; exact ok32
  · cases h; exact ok33
  · cases h; exact ok34
  · cases h; exact ok10
  · cases h; exact ok12
  · cases h; exact ok3
  · cases h
theorem tab16 : tab 16 = some a16 := rfl
theorem tab61 : tab 61 = some a61 := rfl
theorem tab58 : tab 58 = some a58 := rfl
theorem tab62 : tab 62 = some a62 := rfl
theorem tab59 : tab 59 = some a59 := rfl
theorem tab60 : tab 60 = some a60 := rfl
theorem tab35 : tab 35 = some a35 := rfl
theorem tab13 : tab 13 = some a13 := rfl
theorem tab36 : tab 36 = some a36 := rfl
theorem tab14 : tab 14 = some a14 := rfl
theorem tab15 : tab 15 = some a15 := rfl
theorem tab4 : tab 4 = some a4 := rfl
theorem tab24 : tab 24 = some a24 := rfl
theorem tab72 : tab 72 = some a72 := rfl
theorem tab69 : tab 69 = some a69 := rfl
theorem tab73 : tab 73 = some a73 := rfl
theorem tab70 : tab 70 = some a70 := rfl
theorem tab71 : tab 71 = some a71 := rfl
theorem tab42 : tab 42 = some a42 := rfl
theorem tab21 : tab 21 = some a21 := rfl
theorem tab43 : tab 43 = some a43 := rfl
theorem tab22 : tab 22 = some a22 := rfl
theorem tab44 : tab 44 = some a44 := rfl
theorem tab23 : tab 23 = some a23 := rfl
theorem tab6 : tab 6 = some a6 := rfl
theorem tab18 : tab 18 = some a18 := rfl
theorem tab39 : tab 39 = some a39 := rfl
theorem tab86 : tab 86 = some a86 := rfl
theorem tab97 : tab 97 = some a97 := rfl
theorem tab87 : tab 87 = some a87 := rfl
theorem tab63 : tab 63 = some a63 := rfl
theorem tab64 : tab 64 = some a64 := rfl
theorem tab114 : tab 114 = some a114 := rfl
theorem tab108 : tab 108 = some a108 := rfl
theorem tab107 : tab 107 = some a107 := rfl
theorem tab68 : tab 68 = some a68 := rfl
theorem tab115 : tab 115 = some a115 := rfl
theorem tab109 : tab 109 = some a109 := rfl
theorem tab98 : tab 98 = some a98 := rfl
theorem tab110 : tab 110 = some a110 := rfl
theorem tab99 : tab 99 = some a99 := rfl
theorem tab89 : tab 89 = some a89 := rfl
theorem tab88 : tab 88 = some a88 := rfl
theorem tab65 : tab 65 = some a65 := rfl
theorem tab90 : tab 90 = some a90 := rfl
theorem tab66 : tab 66 = some a66 := rfl
theorem tab37 : tab 37 = some a37 := rfl
theorem tab38 : tab 38 = some a38 := rfl
theorem tab17 : tab 17 = some a17 := rfl
theorem tab67 : tab 67 = some a67 := rfl
theorem tab41 : tab 41 = some a41 := rfl
theorem tab20 : tab 20 = some a20 := rfl
theorem tab40 : tab 40 = some a40 := rfl
theorem tab19 : tab 19 = some a19 := rfl
theorem tab5 : tab 5 = some a5 := rfl
theorem tab46 : tab 46 = some a46 := rfl
theorem tab26 : tab 26 = some a26 := rfl
theorem tab96 : tab 96 = some a96 := rfl
theorem tab75 : tab 75 = some a75 := rfl
theorem tab77 : tab 77 = some a77 := rfl
theorem tab48 : tab 48 = some a48 := rfl
theorem tab116 : tab 116 = some a116 := rfl
theorem tab111 : tab 111 = some a111 := rfl
theorem tab100 : tab 100 = some a100 := rfl
theorem tab112 : tab 112 = some a112 := rfl
theorem tab101 : tab 101 = some a101 := rfl
theorem tab47 : tab 47 = some a47 := rfl
theorem tab103 : tab 103 = some a103 := rfl
theorem tab102 : tab 102 = some a102 := rfl
theorem tab92 : tab 92 = some a92 := rfl
theorem tab91 : tab 91 = some a91 := rfl
theorem tab124 : tab 124 = some a124 := rfl
theorem tab121 : tab 121 = some a121 := rfl
theorem tab120 : tab 120 = some a120 := rfl
theorem tab80 : tab 80 = some a80 := rfl
theorem tab126 : tab 126 = some a126 := rfl
theorem tab125 : tab 125 = some a125 := rfl
theorem tab127 : tab 127 = some a127 := rfl
theorem tab122 : tab 122 = some a122 := rfl
theorem tab118 : tab 118 = some a118 := rfl
theorem tab117 : tab 117 = some a117 := rfl
theorem tab123 : tab 123 = some a123 := rfl
theorem tab119 : tab 119 = some a119 := rfl
theorem tab113 : tab 113 = some a113 := rfl
theorem tab104 : tab 104 = some a104 := rfl
theorem tab93 : tab 93 = some a93 := rfl
theorem tab105 : tab 105 = some a105 := rfl
theorem tab106 : tab 106 = some a106 := rfl
theorem tab94 : tab 94 = some a94 := rfl
theorem tab95 : tab 95 = some a95 := rfl
theorem tab74 : tab 74 = some a74 := rfl
theorem tab76 : tab 76 = some a76 := rfl
theorem tab45 : tab 45 = some a45 := rfl
theorem tab25 : tab 25 = some a25 := rfl
theorem tab79 : tab 79 = some a79 := rfl
theorem tab51 : tab 51 = some a51 := rfl
theorem tab28 : tab 28 = some a28 := rfl
theorem tab78 : tab 78 = some a78 := rfl
theorem tab49 : tab 49 = some a49 := rfl
theorem tab50 : tab 50 = some a50 := rfl
theorem tab27 : tab 27 = some a27 := rfl
theorem tab7 : tab 7 = some a7 := rfl
theorem tab8 : tab 8 = some a8 := rfl
theorem tab84 : tab 84 = some a84 := rfl
theorem tab81 : tab 81 = some a81 := rfl
theorem tab85 : tab 85 = some a85 := rfl
theorem tab82 : tab 82 = some a82 := rfl
theorem tab83 : tab 83 = some a83 := rfl
theorem tab52 : tab 52 = some a52 := rfl
theorem tab29 : tab 29 = some a29 := rfl
theorem tab53 : tab 53 = some a53 := rfl
theorem tab30 : tab 30 = some a30 := rfl
theorem tab54 : tab 54 = some a54 := rfl
theorem tab31 : tab 31 = some a31 := rfl
theorem tab9 : tab 9 = some a9 := rfl
theorem tab11 : tab 11 = some a11 := rfl
theorem tab55 : tab 55 = some a55 := rfl
theorem tab56 : tab 56 = some a56 := rfl
theorem tab57 : tab 57 = some a57 := rfl
theorem tab32 : tab 32 = some a32 := rfl
theorem tab33 : tab 33 = some a33 := rfl
theorem tab34 : tab 34 = some a34 := rfl
theorem tab10 : tab 10 = some a10 := rfl
theorem tab12 : tab 12 = some a12 := rfl
theorem tab3 : tab 3 = some a3 := rfl
end Go.Proofs.YtbdokibepndibaaGreat.Eng.C
