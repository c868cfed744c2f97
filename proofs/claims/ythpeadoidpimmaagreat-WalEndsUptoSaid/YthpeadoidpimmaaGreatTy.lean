/- Facts on the types of the program, by reckoning. -/
import Derived.Test.YthpeadoidpimmaaGreatTw7
import Derived.Test.YthpeadoidpimmaaGreatProg
namespace Go.Proofs.YthpeadoidpimmaaGreat
open Go Tw
set_option linter.unusedVariables false
set_option maxRecDepth 10000
set_option maxHeartbeats 4000000

section
variable {P : Program} {N : Nat} {ops : Array Oper} {Q : Exit → Act → World → Prop} {l : List Oper} {e : Env} {W : World} {h h1 : Hp} {c' : Code} {d : Option Tmp} {op : Op} {t : TypeId} {p : String} {af : Array Edge} {v : Value}
theorem Wq (hy : Yq P N ⟨d, op, t, p, af, none⟩ e h v) (hd : inF N d = true) (hk : WPL P N ops Q l (pt e d v) W h) : WPL P N ops Q (⟨d, op, t, p, af, none⟩ :: l) e W h := WPL.q tk0 hy hd hk
theorem Wf (ho : Eff P N ⟨d, op, t, p, af, none⟩ e W h v h1) (hd : inF N d = true) (hk : WPL P N ops Q l (pt e d v) W h1) : WPL P N ops Q (⟨d, op, t, p, af, none⟩ :: l) e W h := WPL.f tk0 ho hd hk
theorem We {post : Value → Hp → Prop} (ho : OpOk P N ⟨d, op, t, p, af, none⟩ e W h post) (hd : inF N d = true) (hk : ∀ v h', post v h' → WPL P N ops Q l (pt e d v) W h') : WPL P N ops Q (⟨d, op, t, p, af, none⟩ :: l) e W h := WPL.eff tk0 ho hd hk
theorem Qa {x : Operand} (hx : ev e x = some v) (hd : inF N d = true) (hk : WPL P N ops Q l (pt e d v) W h) : WPL P N ops Q (⟨d, .assign x, t, p, af, none⟩ :: l) e W h := Wq (asg hx) hd hk
theorem Qm {x : Operand} (hx : ev e x = some v) (hd : inF N d = true) (hk : WPL P N ops Q l (pt e d v) W h) : WPL P N ops Q (⟨d, .move x, t, p, af, none⟩ :: l) e W h := Wq (mv hx) hd hk
theorem X2 (hk : WPC P N c' Q e W h) : WPL P N ops (Exit.then (c'.wp P Q) Q) [] e W h := WPL.nil (WQ.next hk)
theorem R2 {id : Nat} (hk : WPL P N l.toArray (Exit.then (c'.wp P Q) Q) l e W h) : WPC P N (.seq (.region id l.toArray false) c') Q e W h := WPC.seq (WPC.region hk)
theorem X4 {id : Nat} (hk : WPL P N l.toArray (Exit.then (c'.wp P Q) Q) l e W h) : WPL P N ops (Exit.then ((Code.seq (.region id l.toArray false) c').wp P Q) Q) [] e W h := X2 (R2 hk)
theorem Pp {anc : Nat → Nat → Bool} {S : List (Nat × Value)} {r : Plan} {i : Nat} (ho : ops[i]? = some ⟨d, op, t, p, af, none⟩) (hd : inF N d = true) (hy : ∀ {h}, Yq P N ⟨d, op, t, p, af, none⟩ e h v) (hr : PL P N ops Q W anc r S (pt e d v) h) : PL P N ops Q W anc (.p i r) S e h := PL.pp ho hd tk0 (fun _ => hy) hr
theorem Pm {anc : Nat → Nat → Bool} {S : List (Nat × Value)} {r : Plan} {i : Nat} {x : Operand} (ho : ops[i]? = some ⟨d, .move x, t, p, af, none⟩) (hd : inF N d = true) (hx : ev e x = some v) (hr : PL P N ops Q W anc r S (pt e d v) h) : PL P N ops Q W anc (.p i r) S e h := PL.pp ho hd tk0 (fun _ => mv hx) hr
theorem Pq {anc : Nat → Nat → Bool} {S : List (Nat × Value)} {r : Plan} {i : Nat} (ho : ops[i]? = some ⟨d, op, t, p, af, none⟩) (hd : inF N d = true) (hy : Yq P N ⟨d, op, t, p, af, none⟩ e h v) (hr : PL P N ops Q W anc r ((i, v) :: S) (pt e d v) h) : PL P N ops Q W anc (.q i r) S e h := PL.qq ho hd tk0 hy hr
theorem Sk {j : Nat} {want b : Bool} {dj : Tmp} (ho : (ops[j]?).bind (·.dst) = some dj) (hv : lk e dj = some (.bool b)) (hb : b = !want) (hd : inF N d = true) (hk : WPL P N ops Q l (pt e d undef) W h) : WPL P N ops Q (⟨d, op, t, p, af, some (j, want)⟩ :: l) e W h := WPL.skip (ntkb ho hv hb) hd hk
theorem R4 {id : Nat} (hk : WPL P N l.toArray (Exit.then (c'.wp P Q) Q) l e W h) : WPC P N .skip (Exit.then ((Code.seq (.region id l.toArray false) c').wp P Q) Q) e W h := WPC.skip (WQ.next (R2 hk))
end

theorem aO_122 : arrO Tryz.prog 122 = some (128, 5, 1) := by kernel_rfl
theorem aO_171 : arrO Tryz.prog 171 = some (16, 31, 1) := by kernel_rfl
theorem aO_43 : arrO Tryz.prog 43 = some (2, 42, 1) := by kernel_rfl
theorem aO_45 : arrO Tryz.prog 45 = some (2, 44, 1) := by kernel_rfl
theorem aO_46 : arrO Tryz.prog 46 = some (2, 3, 1) := by kernel_rfl
theorem aO_61 : arrO Tryz.prog 61 = some (128, 5, 1) := by kernel_rfl
theorem bO_4 : isBool Tryz.prog 4 = true := by kernel_rfl
theorem cO_10 : callO Tryz.prog 10 = true := by kernel_rfl
theorem cO_100 : callO Tryz.prog 100 = true := by kernel_rfl
theorem cO_101 : callO Tryz.prog 101 = true := by kernel_rfl
theorem cO_102 : callO Tryz.prog 102 = true := by kernel_rfl
theorem cO_103 : callO Tryz.prog 103 = true := by kernel_rfl
theorem cO_104 : callO Tryz.prog 104 = true := by kernel_rfl
theorem cO_105 : callO Tryz.prog 105 = true := by kernel_rfl
theorem cO_106 : callO Tryz.prog 106 = true := by kernel_rfl
theorem cO_107 : callO Tryz.prog 107 = true := by kernel_rfl
theorem cO_108 : callO Tryz.prog 108 = true := by kernel_rfl
theorem cO_109 : callO Tryz.prog 109 = true := by kernel_rfl
theorem cO_11 : callO Tryz.prog 11 = true := by kernel_rfl
theorem cO_110 : callO Tryz.prog 110 = true := by kernel_rfl
theorem cO_111 : callO Tryz.prog 111 = true := by kernel_rfl
theorem cO_112 : callO Tryz.prog 112 = true := by kernel_rfl
theorem cO_113 : callO Tryz.prog 113 = true := by kernel_rfl
theorem cO_114 : callO Tryz.prog 114 = true := by kernel_rfl
theorem cO_115 : callO Tryz.prog 115 = true := by kernel_rfl
theorem cO_116 : callO Tryz.prog 116 = true := by kernel_rfl
theorem cO_12 : callO Tryz.prog 12 = true := by kernel_rfl
theorem cO_13 : callO Tryz.prog 13 = true := by kernel_rfl
theorem cO_14 : callO Tryz.prog 14 = true := by kernel_rfl
theorem cO_15 : callO Tryz.prog 15 = true := by kernel_rfl
theorem cO_16 : callO Tryz.prog 16 = true := by kernel_rfl
theorem cO_17 : callO Tryz.prog 17 = true := by kernel_rfl
theorem cO_18 : callO Tryz.prog 18 = true := by kernel_rfl
theorem cO_19 : callO Tryz.prog 19 = true := by kernel_rfl
theorem cO_20 : callO Tryz.prog 20 = true := by kernel_rfl
theorem cO_21 : callO Tryz.prog 21 = true := by kernel_rfl
theorem cO_22 : callO Tryz.prog 22 = true := by kernel_rfl
theorem cO_23 : callO Tryz.prog 23 = true := by kernel_rfl
theorem cO_24 : callO Tryz.prog 24 = true := by kernel_rfl
theorem cO_25 : callO Tryz.prog 25 = true := by kernel_rfl
theorem cO_26 : callO Tryz.prog 26 = true := by kernel_rfl
theorem cO_27 : callO Tryz.prog 27 = true := by kernel_rfl
theorem cO_28 : callO Tryz.prog 28 = true := by kernel_rfl
theorem cO_29 : callO Tryz.prog 29 = true := by kernel_rfl
theorem cO_30 : callO Tryz.prog 30 = true := by kernel_rfl
theorem cO_31 : callO Tryz.prog 31 = true := by kernel_rfl
theorem cO_32 : callO Tryz.prog 32 = true := by kernel_rfl
theorem cO_33 : callO Tryz.prog 33 = true := by kernel_rfl
theorem cO_34 : callO Tryz.prog 34 = true := by kernel_rfl
theorem cO_35 : callO Tryz.prog 35 = true := by kernel_rfl
theorem cO_36 : callO Tryz.prog 36 = true := by kernel_rfl
theorem cO_37 : callO Tryz.prog 37 = true := by kernel_rfl
theorem cO_38 : callO Tryz.prog 38 = true := by kernel_rfl
theorem cO_39 : callO Tryz.prog 39 = true := by kernel_rfl
theorem cO_40 : callO Tryz.prog 40 = true := by kernel_rfl
theorem cO_41 : callO Tryz.prog 41 = true := by kernel_rfl
theorem cO_42 : callO Tryz.prog 42 = true := by kernel_rfl
theorem cO_43 : callO Tryz.prog 43 = true := by kernel_rfl
theorem cO_44 : callO Tryz.prog 44 = true := by kernel_rfl
theorem cO_45 : callO Tryz.prog 45 = true := by kernel_rfl
theorem cO_46 : callO Tryz.prog 46 = true := by kernel_rfl
theorem cO_47 : callO Tryz.prog 47 = true := by kernel_rfl
theorem cO_48 : callO Tryz.prog 48 = true := by kernel_rfl
theorem cO_49 : callO Tryz.prog 49 = true := by kernel_rfl
theorem cO_50 : callO Tryz.prog 50 = true := by kernel_rfl
theorem cO_51 : callO Tryz.prog 51 = true := by kernel_rfl
theorem cO_52 : callO Tryz.prog 52 = true := by kernel_rfl
theorem cO_53 : callO Tryz.prog 53 = true := by kernel_rfl
theorem cO_54 : callO Tryz.prog 54 = true := by kernel_rfl
theorem cO_55 : callO Tryz.prog 55 = true := by kernel_rfl
theorem cO_56 : callO Tryz.prog 56 = true := by kernel_rfl
theorem cO_57 : callO Tryz.prog 57 = true := by kernel_rfl
theorem cO_58 : callO Tryz.prog 58 = true := by kernel_rfl
theorem cO_59 : callO Tryz.prog 59 = true := by kernel_rfl
theorem cO_60 : callO Tryz.prog 60 = true := by kernel_rfl
theorem cO_61 : callO Tryz.prog 61 = true := by kernel_rfl
theorem cO_62 : callO Tryz.prog 62 = true := by kernel_rfl
theorem cO_63 : callO Tryz.prog 63 = true := by kernel_rfl
theorem cO_64 : callO Tryz.prog 64 = true := by kernel_rfl
theorem cO_65 : callO Tryz.prog 65 = true := by kernel_rfl
theorem cO_66 : callO Tryz.prog 66 = true := by kernel_rfl
theorem cO_67 : callO Tryz.prog 67 = true := by kernel_rfl
theorem cO_68 : callO Tryz.prog 68 = true := by kernel_rfl
theorem cO_69 : callO Tryz.prog 69 = true := by kernel_rfl
theorem cO_70 : callO Tryz.prog 70 = true := by kernel_rfl
theorem cO_71 : callO Tryz.prog 71 = true := by kernel_rfl
theorem cO_72 : callO Tryz.prog 72 = true := by kernel_rfl
theorem cO_73 : callO Tryz.prog 73 = true := by kernel_rfl
theorem cO_74 : callO Tryz.prog 74 = true := by kernel_rfl
theorem cO_75 : callO Tryz.prog 75 = true := by kernel_rfl
theorem cO_76 : callO Tryz.prog 76 = true := by kernel_rfl
theorem cO_77 : callO Tryz.prog 77 = true := by kernel_rfl
theorem cO_78 : callO Tryz.prog 78 = true := by kernel_rfl
theorem cO_79 : callO Tryz.prog 79 = true := by kernel_rfl
theorem cO_80 : callO Tryz.prog 80 = true := by kernel_rfl
theorem cO_81 : callO Tryz.prog 81 = true := by kernel_rfl
theorem cO_82 : callO Tryz.prog 82 = true := by kernel_rfl
theorem cO_83 : callO Tryz.prog 83 = true := by kernel_rfl
theorem cO_84 : callO Tryz.prog 84 = true := by kernel_rfl
theorem cO_85 : callO Tryz.prog 85 = true := by kernel_rfl
theorem cO_86 : callO Tryz.prog 86 = true := by kernel_rfl
theorem cO_87 : callO Tryz.prog 87 = true := by kernel_rfl
theorem cO_88 : callO Tryz.prog 88 = true := by kernel_rfl
theorem cO_89 : callO Tryz.prog 89 = true := by kernel_rfl
theorem cO_90 : callO Tryz.prog 90 = true := by kernel_rfl
theorem cO_91 : callO Tryz.prog 91 = true := by kernel_rfl
theorem cO_92 : callO Tryz.prog 92 = true := by kernel_rfl
theorem cO_93 : callO Tryz.prog 93 = true := by kernel_rfl
theorem cO_94 : callO Tryz.prog 94 = true := by kernel_rfl
theorem cO_95 : callO Tryz.prog 95 = true := by kernel_rfl
theorem cO_96 : callO Tryz.prog 96 = true := by kernel_rfl
theorem cO_97 : callO Tryz.prog 97 = true := by kernel_rfl
theorem cO_98 : callO Tryz.prog 98 = true := by kernel_rfl
theorem cO_99 : callO Tryz.prog 99 = true := by kernel_rfl
theorem eO_121 : eqOk Tryz.prog 121 = true := by kernel_rfl
theorem eO_144 : eqOk Tryz.prog 144 = true := by kernel_rfl
theorem eO_89 : eqOk Tryz.prog 89 = true := by kernel_rfl
theorem fO_101_0 : fieldO Tryz.prog 101 0 = some (0, 1) := by kernel_rfl
theorem fO_101_1 : fieldO Tryz.prog 101 1 = some (1, 1) := by kernel_rfl
theorem fO_101_2 : fieldO Tryz.prog 101 2 = some (2, 1) := by kernel_rfl
theorem fO_101_3 : fieldO Tryz.prog 101 3 = some (3, 1) := by kernel_rfl
theorem fO_109_0 : fieldO Tryz.prog 109 0 = some (0, 3) := by kernel_rfl
theorem fO_109_1 : fieldO Tryz.prog 109 1 = some (3, 4) := by kernel_rfl
theorem fO_109_2 : fieldO Tryz.prog 109 2 = some (7, 1) := by kernel_rfl
theorem fO_109_3 : fieldO Tryz.prog 109 3 = some (8, 1) := by kernel_rfl
theorem fO_109_4 : fieldO Tryz.prog 109 4 = some (9, 1) := by kernel_rfl
theorem fO_109_5 : fieldO Tryz.prog 109 5 = some (10, 1) := by kernel_rfl
theorem fO_109_6 : fieldO Tryz.prog 109 6 = some (11, 1) := by kernel_rfl
theorem fO_116_0 : fieldO Tryz.prog 116 0 = some (0, 1) := by kernel_rfl
theorem fO_116_1 : fieldO Tryz.prog 116 1 = some (1, 1) := by kernel_rfl
theorem fO_116_10 : fieldO Tryz.prog 116 10 = some (10, 1) := by kernel_rfl
theorem fO_116_11 : fieldO Tryz.prog 116 11 = some (11, 1) := by kernel_rfl
theorem fO_116_12 : fieldO Tryz.prog 116 12 = some (12, 1) := by kernel_rfl
theorem fO_116_2 : fieldO Tryz.prog 116 2 = some (2, 1) := by kernel_rfl
theorem fO_116_3 : fieldO Tryz.prog 116 3 = some (3, 1) := by kernel_rfl
theorem fO_116_4 : fieldO Tryz.prog 116 4 = some (4, 1) := by kernel_rfl
theorem fO_116_5 : fieldO Tryz.prog 116 5 = some (5, 1) := by kernel_rfl
theorem fO_116_6 : fieldO Tryz.prog 116 6 = some (6, 1) := by kernel_rfl
theorem fO_116_7 : fieldO Tryz.prog 116 7 = some (7, 1) := by kernel_rfl
theorem fO_116_8 : fieldO Tryz.prog 116 8 = some (8, 1) := by kernel_rfl
theorem fO_116_9 : fieldO Tryz.prog 116 9 = some (9, 1) := by kernel_rfl
theorem fO_121_0 : fieldO Tryz.prog 121 0 = some (0, 1) := by kernel_rfl
theorem fO_121_1 : fieldO Tryz.prog 121 1 = some (1, 1) := by kernel_rfl
theorem fO_121_2 : fieldO Tryz.prog 121 2 = some (2, 1) := by kernel_rfl
theorem fO_121_3 : fieldO Tryz.prog 121 3 = some (3, 1) := by kernel_rfl
theorem fO_121_4 : fieldO Tryz.prog 121 4 = some (4, 1) := by kernel_rfl
theorem fO_128_0 : fieldO Tryz.prog 128 0 = some (0, 1) := by kernel_rfl
theorem fO_128_1 : fieldO Tryz.prog 128 1 = some (1, 1) := by kernel_rfl
theorem fO_128_2 : fieldO Tryz.prog 128 2 = some (2, 1) := by kernel_rfl
theorem fO_130_0 : fieldO Tryz.prog 130 0 = some (0, 3) := by kernel_rfl
theorem fO_130_1 : fieldO Tryz.prog 130 1 = some (3, 1) := by kernel_rfl
theorem fO_136_0 : fieldO Tryz.prog 136 0 = some (0, 1) := by kernel_rfl
theorem fO_136_1 : fieldO Tryz.prog 136 1 = some (1, 128) := by kernel_rfl
theorem fO_139_0 : fieldO Tryz.prog 139 0 = some (0, 1) := by kernel_rfl
theorem fO_139_1 : fieldO Tryz.prog 139 1 = some (1, 1) := by kernel_rfl
theorem fO_23_0 : fieldO Tryz.prog 23 0 = some (0, 1) := by kernel_rfl
theorem fO_23_1 : fieldO Tryz.prog 23 1 = some (1, 1) := by kernel_rfl
theorem fO_23_2 : fieldO Tryz.prog 23 2 = some (2, 1) := by kernel_rfl
theorem fO_23_3 : fieldO Tryz.prog 23 3 = some (3, 1) := by kernel_rfl
theorem fO_23_4 : fieldO Tryz.prog 23 4 = some (4, 1) := by kernel_rfl
theorem fO_28_0 : fieldO Tryz.prog 28 0 = some (0, 1) := by kernel_rfl
theorem fO_28_1 : fieldO Tryz.prog 28 1 = some (1, 1) := by kernel_rfl
theorem fO_28_2 : fieldO Tryz.prog 28 2 = some (2, 1) := by kernel_rfl
theorem fO_28_3 : fieldO Tryz.prog 28 3 = some (3, 1) := by kernel_rfl
theorem fO_48_0 : fieldO Tryz.prog 48 0 = some (0, 1) := by kernel_rfl
theorem fO_48_1 : fieldO Tryz.prog 48 1 = some (1, 1) := by kernel_rfl
theorem fO_48_2 : fieldO Tryz.prog 48 2 = some (2, 2) := by kernel_rfl
theorem fO_48_3 : fieldO Tryz.prog 48 3 = some (4, 2) := by kernel_rfl
theorem fO_48_4 : fieldO Tryz.prog 48 4 = some (6, 2) := by kernel_rfl
theorem fO_48_5 : fieldO Tryz.prog 48 5 = some (8, 2) := by kernel_rfl
theorem fO_59_0 : fieldO Tryz.prog 59 0 = some (0, 1) := by kernel_rfl
theorem fO_59_1 : fieldO Tryz.prog 59 1 = some (1, 1) := by kernel_rfl
theorem fO_59_2 : fieldO Tryz.prog 59 2 = some (2, 1) := by kernel_rfl
theorem fO_59_3 : fieldO Tryz.prog 59 3 = some (3, 1) := by kernel_rfl
theorem fO_59_4 : fieldO Tryz.prog 59 4 = some (4, 1) := by kernel_rfl
theorem fO_59_5 : fieldO Tryz.prog 59 5 = some (5, 1) := by kernel_rfl
theorem fO_59_6 : fieldO Tryz.prog 59 6 = some (6, 1) := by kernel_rfl
theorem fO_64_0 : fieldO Tryz.prog 64 0 = some (0, 1) := by kernel_rfl
theorem fO_64_1 : fieldO Tryz.prog 64 1 = some (1, 1) := by kernel_rfl
theorem fO_64_2 : fieldO Tryz.prog 64 2 = some (2, 1) := by kernel_rfl
theorem fO_64_3 : fieldO Tryz.prog 64 3 = some (3, 1) := by kernel_rfl
theorem fO_64_4 : fieldO Tryz.prog 64 4 = some (4, 1) := by kernel_rfl
theorem fO_64_5 : fieldO Tryz.prog 64 5 = some (5, 1) := by kernel_rfl
theorem fO_67_0 : fieldO Tryz.prog 67 0 = some (0, 1) := by kernel_rfl
theorem fO_67_1 : fieldO Tryz.prog 67 1 = some (1, 1) := by kernel_rfl
theorem fO_67_2 : fieldO Tryz.prog 67 2 = some (2, 1) := by kernel_rfl
theorem fO_67_3 : fieldO Tryz.prog 67 3 = some (3, 1) := by kernel_rfl
theorem fO_67_4 : fieldO Tryz.prog 67 4 = some (4, 1) := by kernel_rfl
theorem fO_67_5 : fieldO Tryz.prog 67 5 = some (5, 1) := by kernel_rfl
theorem fO_67_6 : fieldO Tryz.prog 67 6 = some (6, 1) := by kernel_rfl
theorem fO_95_0 : fieldO Tryz.prog 95 0 = some (0, 1) := by kernel_rfl
theorem fO_95_1 : fieldO Tryz.prog 95 1 = some (1, 1) := by kernel_rfl
theorem fO_95_2 : fieldO Tryz.prog 95 2 = some (2, 1) := by kernel_rfl
theorem iO_161 : intO Tryz.prog 161 = some .u64 := by kernel_rfl
theorem iO_2 : intO Tryz.prog 2 = some .i64 := by kernel_rfl
theorem iO_3 : intO Tryz.prog 3 = some .i64 := by kernel_rfl
theorem iO_31 : intO Tryz.prog 31 = some .u32 := by kernel_rfl
theorem iO_5 : intO Tryz.prog 5 = some .u8 := by kernel_rfl
theorem kO_101 : kindO Tryz.prog 101 = some (true, 4) := by kernel_rfl
theorem kO_107 : kindO Tryz.prog 107 = some (false, 1) := by kernel_rfl
theorem kO_114 : kindO Tryz.prog 114 = some (false, 1) := by kernel_rfl
theorem kO_121 : kindO Tryz.prog 121 = some (true, 5) := by kernel_rfl
theorem kO_122 : kindO Tryz.prog 122 = some (true, 128) := by kernel_rfl
theorem kO_128 : kindO Tryz.prog 128 = some (true, 3) := by kernel_rfl
theorem kO_130 : kindO Tryz.prog 130 = some (true, 4) := by kernel_rfl
theorem kO_136 : kindO Tryz.prog 136 = some (true, 129) := by kernel_rfl
theorem kO_139 : kindO Tryz.prog 139 = some (true, 2) := by kernel_rfl
theorem kO_144 : kindO Tryz.prog 144 = some (true, 4) := by kernel_rfl
theorem kO_171 : kindO Tryz.prog 171 = some (true, 16) := by kernel_rfl
theorem kO_2 : kindO Tryz.prog 2 = some (false, 1) := by kernel_rfl
theorem kO_23 : kindO Tryz.prog 23 = some (true, 5) := by kernel_rfl
theorem kO_29 : kindO Tryz.prog 29 = some (false, 1) := by kernel_rfl
theorem kO_3 : kindO Tryz.prog 3 = some (false, 1) := by kernel_rfl
theorem kO_31 : kindO Tryz.prog 31 = some (false, 1) := by kernel_rfl
theorem kO_33 : kindO Tryz.prog 33 = some (false, 1) := by kernel_rfl
theorem kO_38 : kindO Tryz.prog 38 = some (false, 1) := by kernel_rfl
theorem kO_4 : kindO Tryz.prog 4 = some (false, 1) := by kernel_rfl
theorem kO_42 : kindO Tryz.prog 42 = some (false, 1) := by kernel_rfl
theorem kO_43 : kindO Tryz.prog 43 = some (true, 2) := by kernel_rfl
theorem kO_44 : kindO Tryz.prog 44 = some (false, 1) := by kernel_rfl
theorem kO_45 : kindO Tryz.prog 45 = some (true, 2) := by kernel_rfl
theorem kO_5 : kindO Tryz.prog 5 = some (false, 1) := by kernel_rfl
theorem kO_55 : kindO Tryz.prog 55 = some (false, 1) := by kernel_rfl
theorem kO_56 : kindO Tryz.prog 56 = some (false, 1) := by kernel_rfl
theorem kO_57 : kindO Tryz.prog 57 = some (false, 1) := by kernel_rfl
theorem kO_61 : kindO Tryz.prog 61 = some (true, 128) := by kernel_rfl
theorem kO_62 : kindO Tryz.prog 62 = some (false, 1) := by kernel_rfl
theorem kO_65 : kindO Tryz.prog 65 = some (false, 1) := by kernel_rfl
theorem kO_67 : kindO Tryz.prog 67 = some (true, 7) := by kernel_rfl
theorem kO_86 : kindO Tryz.prog 86 = some (false, 1) := by kernel_rfl
theorem kO_89 : kindO Tryz.prog 89 = some (true, 6) := by kernel_rfl
theorem kO_95 : kindO Tryz.prog 95 = some (true, 3) := by kernel_rfl
theorem mO_57 : mapO Tryz.prog 57 = true := by kernel_rfl
theorem mixO : Tryz.prog.follows .mixedOrders = true := by kernel_rfl
theorem pO_33 : isPtr Tryz.prog 33 = true := by kernel_rfl
theorem pO_38 : isPtr Tryz.prog 38 = true := by kernel_rfl
theorem pO_42 : isPtr Tryz.prog 42 = true := by kernel_rfl
theorem pO_44 : isPtr Tryz.prog 44 = true := by kernel_rfl
theorem sO_107 : sliceO Tryz.prog 107 = some (130, 4, 48) := by kernel_rfl
theorem sO_114 : sliceO Tryz.prog 114 = some (2, 1, 8) := by kernel_rfl
theorem sO_24 : sliceO Tryz.prog 24 = some (67, 7, 88) := by kernel_rfl
theorem sO_29 : sliceO Tryz.prog 29 = some (5, 1, 1) := by kernel_rfl
theorem sO_55 : sliceO Tryz.prog 55 = some (61, 128, 128) := by kernel_rfl
theorem sO_56 : sliceO Tryz.prog 56 = some (136, 129, 136) := by kernel_rfl
theorem sO_62 : sliceO Tryz.prog 62 = some (139, 2, 32) := by kernel_rfl
theorem sO_65 : sliceO Tryz.prog 65 = some (4, 1, 1) := by kernel_rfl
theorem sO_86 : sliceO Tryz.prog 86 = some (128, 3, 40) := by kernel_rfl
theorem uI_5 : Tryz.prog.underlying 5 = some (.int .u8) := by kernel_rfl
theorem uS_29 : Tryz.prog.underlying 29 = some (.slice 5) := by kernel_rfl
theorem uT_9 : Tryz.prog.underlying 9 = some .string := by kernel_rfl
theorem zO_101 : zeroO Tryz.prog 101 = some [.int .i64 0, .int .i64 0, .int .i64 0, .int .i64 0] := by kernel_rfl
theorem zO_121 : zeroO Tryz.prog 121 = some [.int .i64 0, .int .i64 0, .int .u8 0, .int .i64 0, .int .i64 0] := by kernel_rfl
theorem zO_122 : zeroO Tryz.prog 122 = some ((List.replicate 128 (0 : UInt8)).map bv) := by kernel_rfl
theorem zO_128 : zeroO Tryz.prog 128 = some [.int .i64 0, .int .i64 0, .slice none 0 0] := by kernel_rfl
theorem zO_130 : zeroO Tryz.prog 130 = some [.int .i64 0, .int .i64 0, .slice none 0 0, .int .i64 0] := by kernel_rfl
theorem zO_136 : zeroO Tryz.prog 136 = some (.int .i64 0 :: (List.replicate 128 (0 : UInt8)).map bv) := by kernel_rfl
theorem zO_139 : zeroO Tryz.prog 139 = some [.int .i64 0, .slice none 0 0] := by kernel_rfl
theorem zO_144 : zeroO Tryz.prog 144 = some [.int .i64 0, .int .i64 0, .int .i64 0, .bool false] := by kernel_rfl
theorem zO_171 : zeroO Tryz.prog 171 = some [.int .u32 0, .int .u32 0, .int .u32 0, .int .u32 0, .int .u32 0, .int .u32 0, .int .u32 0, .int .u32 0, .int .u32 0, .int .u32 0, .int .u32 0, .int .u32 0, .int .u32 0, .int .u32 0, .int .u32 0, .int .u32 0] := by kernel_rfl
theorem zO_2 : zeroO Tryz.prog 2 = some [.int .i64 0] := by kernel_rfl
theorem zO_4 : zeroO Tryz.prog 4 = some [.bool false] := by kernel_rfl
theorem zO_5 : zeroO Tryz.prog 5 = some [.int .u8 0] := by kernel_rfl
theorem zO_61 : zeroO Tryz.prog 61 = some ((List.replicate 128 (0 : UInt8)).map bv) := by kernel_rfl
theorem zO_67 : zeroO Tryz.prog 67 = some [.int .i64 0, .int .i64 0, .int .i64 0, .int .i64 0, .bool false, .slice none 0 0, .slice none 0 0] := by kernel_rfl
theorem zO_89 : zeroO Tryz.prog 89 = some [.int .i64 0, .int .i64 0, .int .i64 0, .int .i64 0, .int .i64 0, .int .i64 0] := by kernel_rfl
theorem zO_95 : zeroO Tryz.prog 95 = some [.pointer none, .int .i64 0, .int .i64 0] := by kernel_rfl

end Go.Proofs.YthpeadoidpimmaaGreat
