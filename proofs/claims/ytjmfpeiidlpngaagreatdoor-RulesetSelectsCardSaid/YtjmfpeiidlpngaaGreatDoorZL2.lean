/-
  Part 2 of 6 of the proofs: the texts of wip/ in one file, without what this claim does not use.
-/
import Derived.Test.YtjmfpeiidlpngaaGreatDoorZL1
namespace Go.Proofs.YtjmfpeiidlpngaaGreatDoor
set_option linter.unusedSimpArgs false
set_option linter.unusedVariables false
set_option maxRecDepth 20000
open Go IntKind
abbrev m0 : FuncId := 5
abbrev rB : FuncId := 7
abbrev iG : FuncId := 8
abbrev ki : FuncId := 9
abbrev ph : FuncId := 10
abbrev jf : FuncId := 11
abbrev gS : FuncId := 13
abbrev lI : FuncId := 15
abbrev fE : FuncId := 17
abbrev kK : FuncId := 18
abbrev fL : FuncId := 20
abbrev j8 : FuncId := 22
abbrev kL : FuncId := 23
abbrev mi : FuncId := 24
abbrev jH : FuncId := 25
abbrev po : FuncId := 27
abbrev rG : FuncId := 28
abbrev n9 : FuncId := 29
abbrev nh : FuncId := 30
abbrev iR : FuncId := 31
abbrev kj : FuncId := 32
abbrev uD : FuncId := 33
abbrev uB : FuncId := 34
abbrev eu : FuncId := 35
abbrev tW : FuncId := 36
abbrev jo : FuncId := 37
abbrev gL : FuncId := 38
abbrev uk : FuncId := 39
abbrev iQ : FuncId := 40
abbrev ug : FuncId := 41
abbrev tV : FuncId := 42
abbrev ue : FuncId := 44
abbrev gZ : FuncId := 45
abbrev pY : FuncId := 46
abbrev jm : FuncId := 47
abbrev ir : FuncId := 48
abbrev iY : FuncId := 49
abbrev cX : FuncId := 50
abbrev ma : FuncId := 51
abbrev pu : FuncId := 52
abbrev mS : FuncId := 54
abbrev rA : FuncId := 55
abbrev rk : FuncId := 56
abbrev rb : FuncId := 57
abbrev kv : FuncId := 58
abbrev j7 : FuncId := 59
abbrev mK : FuncId := 60
abbrev nX : FuncId := 61
abbrev rf : FuncId := 62
abbrev pw : FuncId := 63
abbrev lk : FuncId := 64
abbrev sE : FuncId := 65
abbrev sK : FuncId := 66
abbrev cC : FuncId := 67
abbrev cB : FuncId := 68
abbrev cW : FuncId := 69
abbrev eN : FuncId := 70
abbrev dQ : FuncId := 71
abbrev cP : FuncId := 72
abbrev cS : FuncId := 73
abbrev gB : FuncId := 74
abbrev jN : FuncId := 75
abbrev jI : FuncId := 76
abbrev kb : FuncId := 77
abbrev fC : FuncId := 78
abbrev jF : FuncId := 79
abbrev cE : FuncId := 80
abbrev iO : FuncId := 81
abbrev io : FuncId := 82
abbrev gJ : FuncId := 83
abbrev rN : FuncId := 86
abbrev ik : FuncId := 87
abbrev im : FuncId := 88
abbrev jE : FuncId := 89
abbrev jg : FuncId := 90
abbrev pC : FuncId := 93
abbrev pb : FuncId := 94
abbrev vu : FuncId := 95
abbrev uM : FuncId := 100
abbrev kC : FuncId := 101
abbrev hZ : FuncId := 102
abbrev nH : FuncId := 103
abbrev mV : FuncId := 104
abbrev ly : FuncId := 105
abbrev kV : FuncId := 106
abbrev l7 : FuncId := 107
abbrev lF : FuncId := 108
abbrev ke : FuncId := 109
abbrev nV : FuncId := 110
abbrev mf : FuncId := 111
abbrev rD : FuncId := 113
abbrev qR : FuncId := 114
abbrev pB : FuncId := 115
abbrev qj : FuncId := 116
abbrev su : FuncId := 117
abbrev uC : FuncId := 118
abbrev jX : FuncId := 119
abbrev cR : FuncId := 120
abbrev oI : FuncId := 121
abbrev qf : FuncId := 122
abbrev iF : FuncId := 123
abbrev cT : FuncId := 124
abbrev nN : FuncId := 125
abbrev ll : FuncId := 137
abbrev lj : FuncId := 138
abbrev qg : FuncId := 139
abbrev qX : FuncId := 140
abbrev oe : FuncId := 141
abbrev nb : FuncId := 143
abbrev mX : FuncId := 144
abbrev me : FuncId := 145
abbrev mo : FuncId := 146
abbrev nM : FuncId := 147
abbrev oK : FuncId := 148
abbrev oq : FuncId := 149
abbrev mF : FuncId := 150
abbrev qi : FuncId := 151
abbrev sk : FuncId := 152
abbrev qT : FuncId := 153
abbrev om : FuncId := 154
abbrev sL : FuncId := 155
abbrev jj : FuncId := 156
abbrev gP : FuncId := 157
abbrev iH : FuncId := 158
abbrev nv : FuncId := 159
abbrev gH : FuncId := 160
abbrev gV : FuncId := 161
abbrev mz : FuncId := 168
abbrev sx : FuncId := 169
abbrev kB : FuncId := 170
abbrev qh : FuncId := 171
abbrev jU : FuncId := 172
abbrev iE : FuncId := 174
abbrev jh : FuncId := 175
abbrev oZ : FuncId := 176
abbrev lJ : FuncId := 177
abbrev mH : FuncId := 178
abbrev rC : FuncId := 179
abbrev ui : FuncId := 180
abbrev kS : FuncId := 181
abbrev qk : FuncId := 183
abbrev iU : FuncId := 184
abbrev wQ : FuncId := 185
abbrev eO : FuncId := 186
abbrev tF : FuncId := 187
abbrev fU : FuncId := 188
abbrev rS : FuncId := 189
abbrev iB : FuncId := 190
abbrev T_t : TypeId := 0
abbrev oF : TypeId := 3
abbrev zu : TypeId := 4
abbrev gK : TypeId := 5
abbrev bW : TypeId := 9
abbrev nE : TypeId := 22
abbrev cI : TypeId := 25
abbrev hU : TypeId := 27
abbrev eJ : TypeId := 28
abbrev sV : TypeId := 40
abbrev bG : TypeId := 46
abbrev od : TypeId := 51
abbrev lb : TypeId := 53
abbrev lg : TypeId := 54
abbrev lW : TypeId := 55
abbrev pI : TypeId := 56
abbrev mG : TypeId := 57
abbrev uO : TypeId := 59
abbrev cK : TypeId := 61
abbrev nQ : TypeId := 62
abbrev pF : TypeId := 63
abbrev cA : TypeId := 65
abbrev bP : TypeId := 76
abbrev pE : TypeId := 78
abbrev vw : TypeId := 79
abbrev pJ : TypeId := 80
abbrev nU : TypeId := 82
abbrev eK : TypeId := 84
abbrev r4 : TypeId := 85
abbrev m8 : TypeId := 87
abbrev bC : TypeId := 91
abbrev fG : TypeId := 92
abbrev kF : TypeId := 94
abbrev vt : TypeId := 96
abbrev dY : TypeId := 97
abbrev aL : TypeId := 98
abbrev iI : TypeId := 100
abbrev fZ : TypeId := 101
abbrev qL : TypeId := 102
abbrev jK : TypeId := 104
abbrev vp : TypeId := 105
abbrev kr : TypeId := 108
abbrev ei : TypeId := 133
abbrev yo : TypeId := 137
abbrev rr : TypeId := 139
abbrev nj : TypeId := 142
abbrev uq : TypeId := 146
abbrev tY : TypeId := 149
abbrev lM : TypeId := 152
abbrev rH : TypeId := 155
abbrev bE : TypeId := 160
abbrev cH : TypeId := 165
abbrev kO : TypeId := 168
abbrev AX : TypeId := 170
abbrev fW : TypeId := 172
abbrev zn : TypeId := 174
abbrev yV : TypeId := 194
abbrev rY : TypeId := 204
abbrev lB : TypeId := 205
abbrev rL : TypeId := 247
abbrev H3 : TypeId := 248
abbrev yA : TypeId := 254
theorem follows : Tryz.prog.follows .mixedOrders = true := by kernel_rfl
variable [Gh]
def nZ (f : Option Addr) (g i : Nat) (a7 : Int) (a8 : Bool) (a9 aa : Int) (ab : Bool) (ac ad ae af ag ah ai : Int) (aj : ByteArray) (Q : QT) (h : aB) : Prop :=
 alV h (.cells #[.int .i64 a7, .bool a8, .int .u64 a9, .int .u64 aa, .bool ab, .int .u64 ac, .int .u64 ad, .int .i64 ae, .int .i64 af] hU) fun a h1 => alV h1 (.cells #[.int .i64 ag, .int .i64 ah, .int .i64 ai, .string aj] od) fun b h2 => aD Tryz.prog rB #[.slice f g i] h2 fun v h3 => ∃ l, v = .bool l ∧ if (!l) = true then (aD Tryz.prog iG #[] h3 fun v h4 => ∃ c, v = .bool c ∧ Q (.bool c) h4) else (ldS h3 (b.add 3) fun ak => if (decide (((ak.size : Nat) : Int) > 300)) = true then (aD Tryz.prog iG #[] h3 fun v h5 => ∃ c, v = .bool c ∧ Q (.bool c) h5) else (aD Tryz.prog ki #[.slice f g i] h3 fun v h6 => ∃ d m, v = .tuple #[.pointer d, .int .i64 m] ∧ aD Tryz.prog ph #[.slice f g i] h6 fun v h7 => ∃ j k, v = .tuple #[.pointer j, .int .i64 k] ∧ if (m != k) = true then (Q (.bool false) h7) else (if (k != 0) = true then (if (Option.isNone d) = true then (aD Tryz.prog iG #[] h7 fun v h8 => ∃ n, v = .bool n ∧ Q (.bool n) h8) else (Q (.bool false) h7)) else (if (Option.isNone d) = true then (Q (.bool false) h7) else (ldI h7 a .i64 fun al => ldB h7 (a.add 1) fun am => ldI h7 (a.add 2) .u64 fun an => ldI h7 (a.add 3) .u64 fun ao => ldB h7 (a.add 4) fun ap => ldI h7 (a.add 5) .u64 fun aq => ldI h7 (a.add 6) .u64 fun ar => ldI h7 (a.add 7) .i64 fun au => ldI h7 (a.add 8) .i64 fun av => ldI h7 (b.add 1) .i64 fun aw => ldI h7 a .i64 fun o => ldB h7 (a.add 1) fun p => ldI h7 (a.add 2) .u64 fun q => ldI h7 (a.add 3) .u64 fun r => ldB h7 (a.add 4) fun s => ldI h7 (a.add 5) .u64 fun t => ldI h7 (a.add 6) .u64 fun u => ldI h7 (a.add 7) .i64 fun w => ldI h7 (a.add 8) .i64 fun x => ldI h7 (b.add 1) .i64 fun y => aD Tryz.prog kL #[.pointer d, .agg #[.int .i64 al, .bool am, .int .u64 an, .int .u64 ao, .bool ap, .int .u64 aq, .int .u64 ar, .int .i64 au, .int .i64 av], .int .i64 aw] h7 fun v h9 => ∃ z A B, v = .slice z A B ∧ (ldI h9 a .i64 fun ax => ldB h9 (a.add 1) fun ay => ldI h9 (a.add 2) .u64 fun az => ldI h9 (a.add 3) .u64 fun b0 => ldB h9 (a.add 4) fun b1 => ldI h9 (a.add 5) .u64 fun b2 => ldI h9 (a.add 6) .u64 fun b3 => ldI h9 (a.add 7) .i64 fun b4 => ldI h9 (a.add 8) .i64 fun b5 => (.agg #[.int .i64 ax, .bool ay, .int .u64 az, .int .u64 b0, .bool b1, .int .u64 b2, .int .u64 b3, .int .i64 b4, .int .i64 b5] : Value) = .agg #[.int .i64 o, .bool p, .int .u64 q, .int .u64 r, .bool s, .int .u64 t, .int .u64 u, .int .i64 w, .int .i64 x]) ∧ (ldI h9 (b.add 1) .i64 fun b6 => (.int .i64 b6 : Value) = .int .i64 y) ∧ aD Tryz.prog mi #[.pointer j, .agg #[.int .i64 o, .bool p, .int .u64 q, .int .u64 r, .bool s, .int .u64 t, .int .u64 u, .int .i64 w, .int .i64 x], .int .i64 y] h9 fun v h10 => ∃ C D G, v = .slice C D G ∧ aD Tryz.prog kK #[.slice z A B, .slice C D G] h10 fun v h11 => ∃ I, v = .bool I ∧ if I = true then (ldI h11 a .i64 fun b7 => ldB h11 (a.add 1) fun b8 => ldI h11 (a.add 2) .u64 fun b9 => ldI h11 (a.add 3) .u64 fun ba => ldB h11 (a.add 4) fun bb => ldI h11 (a.add 5) .u64 fun bc => ldI h11 (a.add 6) .u64 fun bd => ldI h11 (a.add 7) .i64 fun bf => ldI h11 (a.add 8) .i64 fun bg => ldI h11 b .i64 fun bh => ldI h11 (b.add 1) .i64 fun bi => ldI h11 (b.add 2) .i64 fun bj => ldS h11 (b.add 3) fun bk => ldI h11 a .i64 fun J => ldB h11 (a.add 1) fun L => ldI h11 (a.add 2) .u64 fun M => ldI h11 (a.add 3) .u64 fun N => ldB h11 (a.add 4) fun O => ldI h11 (a.add 5) .u64 fun P => ldI h11 (a.add 6) .u64 fun R => ldI h11 (a.add 7) .i64 fun S => ldI h11 (a.add 8) .i64 fun U => ldI h11 b .i64 fun V => ldI h11 (b.add 1) .i64 fun W => ldI h11 (b.add 2) .i64 fun X => ldS h11 (b.add 3) fun Y => aD Tryz.prog fL #[.pointer d, .agg #[.int .i64 b7, .bool b8, .int .u64 b9, .int .u64 ba, .bool bb, .int .u64 bc, .int .u64 bd, .int .i64 bf, .int .i64 bg], .agg #[.int .i64 bh, .int .i64 bi, .int .i64 bj, .string bk]] h11 fun v h12 => ∃ Z a0 a1, v = .slice Z a0 a1 ∧ (ldI h12 a .i64 fun bl => ldB h12 (a.add 1) fun bm => ldI h12 (a.add 2) .u64 fun bn => ldI h12 (a.add 3) .u64 fun bo => ldB h12 (a.add 4) fun bp => ldI h12 (a.add 5) .u64 fun bq => ldI h12 (a.add 6) .u64 fun br => ldI h12 (a.add 7) .i64 fun bt => ldI h12 (a.add 8) .i64 fun bu => (.agg #[.int .i64 bl, .bool bm, .int .u64 bn, .int .u64 bo, .bool bp, .int .u64 bq, .int .u64 br, .int .i64 bt, .int .i64 bu] : Value) = .agg #[.int .i64 J, .bool L, .int .u64 M, .int .u64 N, .bool O, .int .u64 P, .int .u64 R, .int .i64 S, .int .i64 U]) ∧ (ldI h12 b .i64 fun bv => ldI h12 (b.add 1) .i64 fun bw => ldI h12 (b.add 2) .i64 fun bx => ldS h12 (b.add 3) fun bz => (.agg #[.int .i64 bv, .int .i64 bw, .int .i64 bx, .string bz] : Value) = .agg #[.int .i64 V, .int .i64 W, .int .i64 X, .string Y]) ∧ aD Tryz.prog jH #[.pointer j, .agg #[.int .i64 J, .bool L, .int .u64 M, .int .u64 N, .bool O, .int .u64 P, .int .u64 R, .int .i64 S, .int .i64 U], .agg #[.int .i64 V, .int .i64 W, .int .i64 X, .string Y]] h12 fun v h13 => ∃ a2 a3 a4, v = .slice a2 a3 a4 ∧ aD Tryz.prog kK #[.slice Z a0 a1, .slice a2 a3 a4] h13 fun v h14 => ∃ a5, v = .bool a5 ∧ if a5 = true then (aD Tryz.prog iG #[] h14 fun v h15 => ∃ a6, v = .bool a6 ∧ Q (.bool a6) h15) else (Q (.bool false) h14)) else (Q (.bool false) h11))))))
set_option maxRecDepth 100000 in
theorem ub (a b c d f g i j k l m n o p q r : _) {Q : QT} {h : aB} (hk : nZ a b c d f g i j k l m n o p q r Q h) : aD Tryz.prog m0 #[.slice a b c, .agg #[.int .i64 d, .bool f, .int .u64 g, .int .u64 i, .bool j, .int .u64 k, .int .u64 l, .int .i64 m, .int .i64 n], .agg #[.int .i64 o, .int .i64 p, .int .i64 q, .string r]] h Q :=
 aS follows Tryz.func5 (Tryz.call5 _) rfl rfl [] []
 trivial
 trivial (by as_aux_lemma => kernel_rfl) hk
def rt (g : Option Addr) (d bk : Nat) (Q : QT) (a : Int) (h : aB) (Kn1 : Int → aB → Prop) : Prop :=
 if (decide (a < ((d : Nat) : Int))) = true then (bO a d (nn g fun c => ldI h (c.add (a.toNat * 25)) .i64 fun i => ldI h ((c.add (a.toNat * 25)).add 1) .i64 fun j => ldL h ((c.add (a.toNat * 25)).add 2) fun k l m => ldL h ((c.add (a.toNat * 25)).add 3) fun n o p => ldL h ((c.add (a.toNat * 25)).add 4) fun q r s => ldL h ((c.add (a.toNat * 25)).add 5) fun t u w => ldB h ((c.add (a.toNat * 25)).add 6) fun x => ldI h ((c.add (a.toNat * 25)).add 7) .i64 fun y => ldI h ((c.add (a.toNat * 25)).add 8) .i64 fun z => ldI h ((c.add (a.toNat * 25)).add 9) .i64 fun A => ldS h ((c.add (a.toNat * 25)).add 10) fun B => ldI h ((c.add (a.toNat * 25)).add 11) .i64 fun C => ldI h ((c.add (a.toNat * 25)).add 12) .i64 fun D => ldL h ((c.add (a.toNat * 25)).add 13) fun G I J => ldL h ((c.add (a.toNat * 25)).add 14) fun L M N => ldL h ((c.add (a.toNat * 25)).add 15) fun O P R => ldL h ((c.add (a.toNat * 25)).add 16) fun S U V => ldI h ((c.add (a.toNat * 25)).add 17) .i64 fun W => ldI h ((c.add (a.toNat * 25)).add 18) .i64 fun X => ldI h ((c.add (a.toNat * 25)).add 19) .i64 fun Y => ldI h ((c.add (a.toNat * 25)).add 20) .i64 fun Z => ldL h ((c.add (a.toNat * 25)).add 21) fun a0 a1 a2 => ldL h ((c.add (a.toNat * 25)).add 22) fun a3 a4 a5 => ldL h ((c.add (a.toNat * 25)).add 23) fun a6 a7 a8 => ldL h ((c.add (a.toNat * 25)).add 24) fun a9 aa ab => alV h (.cells #[.int .i64 0, .int .i64 0, .slice none 0 0, .slice none 0 0, .slice none 0 0, .slice none 0 0, .bool false, .int .i64 0, .int .i64 0, .int .i64 0, .string (⟨#[]⟩ : ByteArray), .int .i64 0, .int .i64 0, .slice none 0 0, .slice none 0 0, .slice none 0 0, .slice none 0 0, .int .i64 0, .int .i64 0, .int .i64 0, .int .i64 0, .slice none 0 0, .slice none 0 0, .slice none 0 0, .slice none 0 0] cA) fun b h1 => stN h1 b [.int .i64 i, .int .i64 j, .slice k l m, .slice n o p, .slice q r s, .slice t u w, .bool x, .int .i64 y, .int .i64 z, .int .i64 A, .string B, .int .i64 C, .int .i64 D, .slice G I J, .slice L M N, .slice O P R, .slice S U V, .int .i64 W, .int .i64 X, .int .i64 Y, .int .i64 Z, .slice a0 a1 a2, .slice a3 a4 a5, .slice a6 a7 a8, .slice a9 aa ab] 0 fun h2 => ldL h2 (b.add 21) fun bl ac bm => if (decide (((ac : Nat) : Int) > 6)) = true then (Q (.bool false) h2) else (ldL h2 (b.add 22) fun bn ad bo => if (decide (((ad : Nat) : Int) > 6)) = true then (Q (.bool false) h2) else (ldL h2 (b.add 23) fun bp ae bq => if (decide (((ae : Nat) : Int) > 6)) = true then (Q (.bool false) h2) else (ldL h2 (b.add 24) fun br af bt => if (decide (((af : Nat) : Int) > 6)) = true then (Q (.bool false) h2) else (ldI h2 b .i64 fun ag => ldI h2 (b.add 1) .i64 fun ah => ldL h2 (b.add 2) fun ai aj ak => ldL h2 (b.add 3) fun al am an => ldL h2 (b.add 4) fun ao ap aq => ldL h2 (b.add 5) fun ar au av => ldB h2 (b.add 6) fun aw => ldI h2 (b.add 7) .i64 fun ax => ldI h2 (b.add 8) .i64 fun ay => ldI h2 (b.add 9) .i64 fun az => ldS h2 (b.add 10) fun b0 => ldI h2 (b.add 11) .i64 fun b1 => ldI h2 (b.add 12) .i64 fun b2 => ldL h2 (b.add 13) fun b3 b4 b5 => ldL h2 (b.add 14) fun b6 b7 b8 => ldL h2 (b.add 15) fun b9 ba bb => ldL h2 (b.add 16) fun bc bd bf => ldI h2 (b.add 17) .i64 fun bg => ldI h2 (b.add 18) .i64 fun bh => ldI h2 (b.add 19) .i64 fun bi => ldI h2 (b.add 20) .i64 fun bj => aD Tryz.prog rG #[.agg #[.int .i64 ag, .int .i64 ah, .slice ai aj ak, .slice al am an, .slice ao ap aq, .slice ar au av, .bool aw, .int .i64 ax, .int .i64 ay, .int .i64 az, .string b0, .int .i64 b1, .int .i64 b2, .slice b3 b4 b5, .slice b6 b7 b8, .slice b9 ba bb, .slice bc bd bf, .int .i64 bg, .int .i64 bh, .int .i64 bi, .int .i64 bj]] h2 fun v h3 => ∃ f, v = .int .i64 f ∧ if (f != 0) = true then (Q (.bool false) h3) else (Kn1 (wrap .i64 (a + 1)) h3))))))) else (Q (.bool true) h)
def w9 (b : Option Addr) (a c : Nat) (Q : QT) (h : aB) : Prop :=
 if (decide (((a : Nat) : Int) > 12)) = true then (Q (.bool false) h) else (aH (fun (s : Int) h Kn => rt b a c Q s h Kn) 0 h)
set_option maxRecDepth 100000 in
theorem Cs (b c d : _) {Q : QT} {h : aB} (hk : w9 b c d Q h) : aD Tryz.prog rB #[.slice b c d] h Q :=
 aS follows Tryz.func7 (Tryz.call7 _) rfl rfl [] [(10, fun e h => dL (e 0) fun b c d => dI .i64 (e 3) fun a => aH (fun (s : Int) h Kn => rt b c d Q s h Kn) a h)]
 trivial
 ⟨⟨by kernel_rfl, fun e h he hk => by
 have F := Ag.nil (e := e)
 have ⟨b, c, d, F, hk⟩ := eL F hk
 have ⟨a, F, hk⟩ := eI F hk
 exact bT (s0 := a) follows (fun _ h => by cases h) he F (fun s => [(3, .int .i64 s)]) (by kernel_rfl) (F.take 1) hk (fun Kn1 e h => dI .i64 (e 3) fun a => Kn1 a h) (fun Kn1 e h hk => by
  have F := Ag.nil (e := e)
  have ⟨a, F, hk⟩ := eI F hk
  exact ⟨a, F, hk⟩)
  (fun Kn1 => []) (fun Kn1 => [])
  (fun Kn1 => trivial)
  (fun Kn1 => trivial) (fun e s h Kn1 => by as_aux_lemma => kernel_rfl)⟩, trivial⟩ (by as_aux_lemma => kernel_rfl) hk
def xd (Q : QT) (h : aB) : Prop :=
 aD Tryz.prog n9 #[.int .i64 1, .string (⟨#[101, 118, 105, 108]⟩ : ByteArray)] h fun v h1 => ∃ d f g i j k l m n o p q r s t u w x y z A B C D G I J L M N O P R S U V W X Y Z a0 a1 a2 a3 a4 a5 a6 a7 a8, v = .agg #[.int .i64 d, .int .i64 f, .slice g i j, .slice k l m, .slice n o p, .slice q r s, .bool t, .int .i64 u, .int .i64 w, .int .i64 x, .string y, .int .i64 z, .int .i64 A, .slice B C D, .slice G I J, .slice L M N, .slice O P R, .int .i64 S, .int .i64 U, .int .i64 V, .int .i64 W, .slice X Y Z, .slice a0 a1 a2, .slice a3 a4 a5, .slice a6 a7 a8] ∧ aD Tryz.prog n9 #[.int .i64 2, .string (⟨#[98, 97, 100]⟩ : ByteArray)] h1 fun v h2 => ∃ a9 aa ab ac ad ae af ag ah ai aj ak al am an ao ap aq ar au av aw ax ay az b0 b1 b2 b3 b4 b5 b6 b7 b8 b9 ba bb bc bd bf bg bh bi bj bk bl bm bn bo, v = .agg #[.int .i64 a9, .int .i64 aa, .slice ab ac ad, .slice ae af ag, .slice ah ai aj, .slice ak al am, .bool an, .int .i64 ao, .int .i64 ap, .int .i64 aq, .string ar, .int .i64 au, .int .i64 av, .slice aw ax ay, .slice az b0 b1, .slice b2 b3 b4, .slice b5 b6 b7, .int .i64 b8, .int .i64 b9, .int .i64 ba, .int .i64 bb, .slice bc bd bf, .slice bg bh bi, .slice bj bk bl, .slice bm bn bo] ∧ aD Tryz.prog n9 #[.int .i64 3, .string (⟨#[103, 111, 111, 100]⟩ : ByteArray)] h2 fun v h3 => ∃ bp bq br bt bu bv bw bx bz c0 c1 c2 c3 c4 c5 c6 c7 c8 c9 ca cb cc cd ce cf cg ch ci cj ck cl cm cn co cp cq cr cs ct cu cv cw cx cy cz d0 d1 d2 d3, v = .agg #[.int .i64 bp, .int .i64 bq, .slice br bt bu, .slice bv bw bx, .slice bz c0 c1, .slice c2 c3 c4, .bool c5, .int .i64 c6, .int .i64 c7, .int .i64 c8, .string c9, .int .i64 ca, .int .i64 cb, .slice cc cd ce, .slice cf cg ch, .slice ci cj ck, .slice cl cm cn, .int .i64 co, .int .i64 cp, .int .i64 cq, .int .i64 cr, .slice cs ct cu, .slice cv cw cx, .slice cy cz d0, .slice d1 d2 d3] ∧ alV h3 (.cells #[.int .i64 d, .int .i64 f, .slice g i j, .slice k l m, .slice n o p, .slice q r s, .bool t, .int .i64 u, .int .i64 w, .int .i64 x, .string y, .int .i64 z, .int .i64 A, .slice B C D, .slice G I J, .slice L M N, .slice O P R, .int .i64 S, .int .i64 U, .int .i64 V, .int .i64 W, .slice X Y Z, .slice a0 a1 a2, .slice a3 a4 a5, .slice a6 a7 a8, .int .i64 a9, .int .i64 aa, .slice ab ac ad, .slice ae af ag, .slice ah ai aj, .slice ak al am, .bool an, .int .i64 ao, .int .i64 ap, .int .i64 aq, .string ar, .int .i64 au, .int .i64 av, .slice aw ax ay, .slice az b0 b1, .slice b2 b3 b4, .slice b5 b6 b7, .int .i64 b8, .int .i64 b9, .int .i64 ba, .int .i64 bb, .slice bc bd bf, .slice bg bh bi, .slice bj bk bl, .slice bm bn bo, .int .i64 bp, .int .i64 bq, .slice br bt bu, .slice bv bw bx, .slice bz c0 c1, .slice c2 c3 c4, .bool c5, .int .i64 c6, .int .i64 c7, .int .i64 c8, .string c9, .int .i64 ca, .int .i64 cb, .slice cc cd ce, .slice cf cg ch, .slice ci cj ck, .slice cl cm cn, .int .i64 co, .int .i64 cp, .int .i64 cq, .int .i64 cr, .slice cs ct cu, .slice cv cw cx, .slice cy cz d0, .slice d1 d2 d3] cA) fun df h4 => aD Tryz.prog ki #[.slice (some df) 3 3] h4 fun v h5 => ∃ c d4, v = .tuple #[.pointer c, .int .i64 d4] ∧ if (d4 != 0) = true then (Q (.bool false) h5) else (if (Option.isNone c) = true then (Q (.bool false) h5) else (alV h5 (.cells #[.int .i64 0, .bool false, .int .u64 0, .int .u64 0, .bool false, .int .u64 0, .int .u64 0, .int .i64 0, .int .i64 0] hU) fun a h6 => stN h6 a [.int .i64 6, .bool false, .int .u64 0, .int .u64 0, .bool false, .int .u64 0, .int .u64 0, .int .i64 5, .int .i64 80] 0 fun h7 => ldI h7 a .i64 fun dg => ldB h7 (a.add 1) fun dh => ldI h7 (a.add 2) .u64 fun di => ldI h7 (a.add 3) .u64 fun dj => ldB h7 (a.add 4) fun dk => ldI h7 (a.add 5) .u64 fun dl => ldI h7 (a.add 6) .u64 fun dm => ldI h7 (a.add 7) .i64 fun dn => ldI h7 (a.add 8) .i64 fun dp => aD Tryz.prog jf #[.pointer c, .agg #[.int .i64 dg, .bool dh, .int .u64 di, .int .u64 dj, .bool dk, .int .u64 dl, .int .u64 dm, .int .i64 dn, .int .i64 dp], .int .i64 4, .int .i64 1] h7 fun v h8 => ∃ b, v = .pointer b ∧ if (Option.isNone b) = true then (Q (.bool false) h8) else (aD Tryz.prog gS #[.pointer b, .string (⟨#[47, 101, 118]⟩ : ByteArray)] h8 fun v h9 => v = .tuple #[] ∧ aD Tryz.prog gS #[.pointer b, .string (⟨#[105, 108]⟩ : ByteArray)] h9 fun v h10 => v = .tuple #[] ∧ ldI h10 a .i64 fun dq => ldB h10 (a.add 1) fun dr => ldI h10 (a.add 2) .u64 fun dt => ldI h10 (a.add 3) .u64 fun du => ldB h10 (a.add 4) fun dv => ldI h10 (a.add 5) .u64 fun dw => ldI h10 (a.add 6) .u64 fun dx => ldI h10 (a.add 7) .i64 fun dy => ldI h10 (a.add 8) .i64 fun dz => aD Tryz.prog fL #[.pointer c, .agg #[.int .i64 dq, .bool dr, .int .u64 dt, .int .u64 du, .bool dv, .int .u64 dw, .int .u64 dx, .int .i64 dy, .int .i64 dz], .agg #[.int .i64 4, .int .i64 1, .int .i64 0, .string (⟨#[47, 101, 118, 105, 108]⟩ : ByteArray)]] h10 fun v h11 => ∃ d5 d6 d7, v = .slice d5 d6 d7 ∧ alV h11 (.cells #[.int .i64 0] oF) fun f0 h12 => aD Tryz.prog kK #[.slice d5 d6 d7, .slice (some f0) 1 1] h12 fun v h13 => ∃ d8, v = .bool d8 ∧ if d8 = true then (aD Tryz.prog fE #[.pointer b] h13 fun v h14 => ∃ d9 da db, v = .slice d9 da db ∧ alV h14 (.cells #[.int .i64 0] oF) fun f1 h15 => aD Tryz.prog kK #[.slice d9 da db, .slice (some f1) 1 1] h15 fun v h16 => ∃ dc, v = .bool dc ∧ if dc = true then (aD Tryz.prog lI #[.pointer b] h16 fun v h17 => ∃ dd, v = .int .i64 dd ∧ if (dd == 5) = true then (aD Tryz.prog j8 #[.pointer c] h17 fun v h18 => ∃ de, v = .int .i64 de ∧ Q (.bool (de == 3)) h18) else (Q (.bool false) h17)) else (Q (.bool false) h16)) else (Q (.bool false) h13))))
set_option maxRecDepth 100000 in
theorem Cg {Q : QT} {h : aB} (hk : xd Q h) : aD Tryz.prog iG #[] h Q :=
 aS follows Tryz.func8 (Tryz.call8 _) rfl rfl [] []
 trivial
 trivial (by as_aux_lemma => kernel_rfl) hk
def gC (d : Addr) (a4 : Option Addr) (a5 ao : Nat) (a6 : Int) (Q : QT) (i : Int) (h : aB) (Kn3 : Int → aB → Prop) : Prop :=
 if (decide (i < a6)) = true then (bO i a5 (nn a4 fun t => ldI h (t.add (i.toNat * 5)) .i64 fun a7 => ldL h ((t.add (i.toNat * 5)).add 1) fun a8 a9 aa => ldL h ((t.add (i.toNat * 5)).add 2) fun ab ac ad => ldL h ((t.add (i.toNat * 5)).add 3) fun ae af ag => ldL h ((t.add (i.toNat * 5)).add 4) fun ah ai aj => alV h (.cells #[.int .i64 0, .slice none 0 0, .slice none 0 0, .slice none 0 0, .slice none 0 0] m8) fun a h17 => stN h17 a [.int .i64 a7, .slice a8 a9 aa, .slice ab ac ad, .slice ae af ag, .slice ah ai aj] 0 fun h18 => ldL h18 (a.add 2) fun ak al am => aD Tryz.prog kj #[.slice ak al am] h18 fun v h19 => ∃ a3 an, v = .tuple #[.pointer a3, .int .i64 an] ∧ ldM h19 (d.add 1) fun f => ldI h19 a .i64 fun g => ldM h19 (d.add 1) fun l => ldI h19 a .i64 fun m => ldI h19 a .i64 fun u => ldL h19 (a.add 1) fun w x y => ldL h19 (a.add 2) fun z A B => ldL h19 (a.add 3) fun C D G => ldL h19 (a.add 4) fun I J L => (BQ Tryz.prog bP (.map l) (.int .i64 m) false h19 fun v h20 => ∃ n o p, v = .slice n o p ∧ (ldM h20 (d.add 1) fun b => (.map b : Value) = .map f) ∧ (ldI h20 a .i64 fun c => (.int .i64 c : Value) = .int .i64 g) ∧ (ldI h20 a .i64 fun M => ldL h20 (a.add 1) fun N O P => ldL h20 (a.add 2) fun R S U => ldL h20 (a.add 3) fun V W X => ldL h20 (a.add 4) fun Y Z a0 => (.agg #[.int .i64 M, .slice N O P, .slice R S U, .slice V W X, .slice Y Z a0] : Value) = .agg #[.int .i64 u, .slice w x y, .slice z A B, .slice C D G, .slice I J L]) ∧ alV h20 (.cells #[.int .i64 u, .slice w x y, .slice z A B, .slice C D G, .slice I J L, .pointer a3] kF) fun a2 h21 => (ldM h21 (d.add 1) fun b => (.map b : Value) = .map f) ∧ (ldI h21 a .i64 fun c => (.int .i64 c : Value) = .int .i64 g) ∧ (ldM h21 (d.add 1) fun j => (.map j : Value) = .map l) ∧ (ldI h21 a .i64 fun k => (.int .i64 k : Value) = .int .i64 m) ∧ alV h21 (.cells #[.pointer (some a2)] fG) fun a1 h22 => (ldM h22 (d.add 1) fun b => (.map b : Value) = .map f) ∧ (ldI h22 a .i64 fun c => (.int .i64 c : Value) = .int .i64 g) ∧ (ldM h22 (d.add 1) fun j => (.map j : Value) = .map l) ∧ (ldI h22 a .i64 fun k => (.int .i64 k : Value) = .int .i64 m) ∧ cQ Tryz.prog .append #[bC, bC] bC #[false, false] #[.slice n o p, .slice (some a1) 1 1] h22 fun v h23 => ∃ q r s, v = .slice q r s ∧ (ldM h23 (d.add 1) fun b => (.map b : Value) = .map f) ∧ (ldI h23 a .i64 fun c => (.int .i64 c : Value) = .int .i64 g) ∧ r8 Tryz.prog bP (.map f) (.int .i64 g) (.slice q r s) h23 fun h24 => Kn3 (wrap .i64 (i + 1)) h24) ∧ (alV h19 (.cells #[.int .i64 u, .slice w x y, .slice z A B, .slice C D G, .slice I J L, .pointer a3] kF) fun a2 h25 => (ldM h25 (d.add 1) fun b => (.map b : Value) = .map f) ∧ (ldI h25 a .i64 fun c => (.int .i64 c : Value) = .int .i64 g) ∧ (ldM h25 (d.add 1) fun j => (.map j : Value) = .map l) ∧ (ldI h25 a .i64 fun k => (.int .i64 k : Value) = .int .i64 m) ∧ (BQ Tryz.prog bP (.map l) (.int .i64 m) false h25 fun v h26 => ∃ n o p, v = .slice n o p ∧ (ldM h26 (d.add 1) fun b => (.map b : Value) = .map f) ∧ (ldI h26 a .i64 fun c => (.int .i64 c : Value) = .int .i64 g) ∧ (ldI h26 a .i64 fun M => ldL h26 (a.add 1) fun N O P => ldL h26 (a.add 2) fun R S U => ldL h26 (a.add 3) fun V W X => ldL h26 (a.add 4) fun Y Z a0 => (.agg #[.int .i64 M, .slice N O P, .slice R S U, .slice V W X, .slice Y Z a0] : Value) = .agg #[.int .i64 u, .slice w x y, .slice z A B, .slice C D G, .slice I J L]) ∧ alV h26 (.cells #[.pointer (some a2)] fG) fun a1 h27 => (ldM h27 (d.add 1) fun b => (.map b : Value) = .map f) ∧ (ldI h27 a .i64 fun c => (.int .i64 c : Value) = .int .i64 g) ∧ (ldM h27 (d.add 1) fun j => (.map j : Value) = .map l) ∧ (ldI h27 a .i64 fun k => (.int .i64 k : Value) = .int .i64 m) ∧ cQ Tryz.prog .append #[bC, bC] bC #[false, false] #[.slice n o p, .slice (some a1) 1 1] h27 fun v h28 => ∃ q r s, v = .slice q r s ∧ (ldM h28 (d.add 1) fun b => (.map b : Value) = .map f) ∧ (ldI h28 a .i64 fun c => (.int .i64 c : Value) = .int .i64 g) ∧ r8 Tryz.prog bP (.map f) (.int .i64 g) (.slice q r s) h28 fun h29 => Kn3 (wrap .i64 (i + 1)) h29) ∧ (alV h25 (.cells #[.pointer (some a2)] fG) fun a1 h30 => (ldM h30 (d.add 1) fun b => (.map b : Value) = .map f) ∧ (ldI h30 a .i64 fun c => (.int .i64 c : Value) = .int .i64 g) ∧ (ldM h30 (d.add 1) fun j => (.map j : Value) = .map l) ∧ (ldI h30 a .i64 fun k => (.int .i64 k : Value) = .int .i64 m) ∧ BQ Tryz.prog bP (.map l) (.int .i64 m) false h30 fun v h31 => ∃ n o p, v = .slice n o p ∧ (ldM h31 (d.add 1) fun b => (.map b : Value) = .map f) ∧ (ldI h31 a .i64 fun c => (.int .i64 c : Value) = .int .i64 g) ∧ (ldI h31 a .i64 fun M => ldL h31 (a.add 1) fun N O P => ldL h31 (a.add 2) fun R S U => ldL h31 (a.add 3) fun V W X => ldL h31 (a.add 4) fun Y Z a0 => (.agg #[.int .i64 M, .slice N O P, .slice R S U, .slice V W X, .slice Y Z a0] : Value) = .agg #[.int .i64 u, .slice w x y, .slice z A B, .slice C D G, .slice I J L]) ∧ cQ Tryz.prog .append #[bC, bC] bC #[false, false] #[.slice n o p, .slice (some a1) 1 1] h31 fun v h32 => ∃ q r s, v = .slice q r s ∧ (ldM h32 (d.add 1) fun b => (.map b : Value) = .map f) ∧ (ldI h32 a .i64 fun c => (.int .i64 c : Value) = .int .i64 g) ∧ r8 Tryz.prog bP (.map f) (.int .i64 g) (.slice q r s) h32 fun h33 => Kn3 (wrap .i64 (i + 1)) h33)))) else (Q (.tuple #[.pointer (some d), .int .i64 0]) h)
def ka (d : Addr) (f : Option Addr) (g i : Nat) (Q : QT) (h : aB) : Prop :=
 aD Tryz.prog iR #[.slice f g i] h fun v h16 => ∃ b a c, v = .slice b a c ∧ aH (fun (s : Int) h Kn => gC d b a c ((a : Nat) : Int) Q s h Kn) 0 h16
def j5 (f : Addr) (g : Option Nat) (ap : Option Addr) (aq ie : Nat) (ar : Int) (Q : QT) (i : Option Addr) (j k : Nat) (b : Int) (h : aB) (Kn1 : (Option Addr) × Nat × Nat × Int → aB → Prop) : Prop :=
 if (decide (b < ar)) = true then (bO b aq (nn ap fun d => ldI h (d.add (b.toNat * 25)) .i64 fun au => ldI h ((d.add (b.toNat * 25)).add 1) .i64 fun av => ldL h ((d.add (b.toNat * 25)).add 2) fun aw ax ay => ldL h ((d.add (b.toNat * 25)).add 3) fun az b0 b1 => ldL h ((d.add (b.toNat * 25)).add 4) fun b2 b3 b4 => ldL h ((d.add (b.toNat * 25)).add 5) fun b5 b6 b7 => ldB h ((d.add (b.toNat * 25)).add 6) fun b8 => ldI h ((d.add (b.toNat * 25)).add 7) .i64 fun b9 => ldI h ((d.add (b.toNat * 25)).add 8) .i64 fun ba => ldI h ((d.add (b.toNat * 25)).add 9) .i64 fun bb => ldS h ((d.add (b.toNat * 25)).add 10) fun bc => ldI h ((d.add (b.toNat * 25)).add 11) .i64 fun bd => ldI h ((d.add (b.toNat * 25)).add 12) .i64 fun bf => ldL h ((d.add (b.toNat * 25)).add 13) fun bg bh bi => ldL h ((d.add (b.toNat * 25)).add 14) fun bj bk bl => ldL h ((d.add (b.toNat * 25)).add 15) fun bm bn bo => ldL h ((d.add (b.toNat * 25)).add 16) fun bp bq br => ldI h ((d.add (b.toNat * 25)).add 17) .i64 fun bt => ldI h ((d.add (b.toNat * 25)).add 18) .i64 fun bu => ldI h ((d.add (b.toNat * 25)).add 19) .i64 fun bv => ldI h ((d.add (b.toNat * 25)).add 20) .i64 fun bw => ldL h ((d.add (b.toNat * 25)).add 21) fun bx bz c0 => ldL h ((d.add (b.toNat * 25)).add 22) fun c1 c2 c3 => ldL h ((d.add (b.toNat * 25)).add 23) fun c4 c5 c6 => ldL h ((d.add (b.toNat * 25)).add 24) fun c7 c8 c9 => alV h (.cells #[.int .i64 0, .int .i64 0, .slice none 0 0, .slice none 0 0, .slice none 0 0, .slice none 0 0, .bool false, .int .i64 0, .int .i64 0, .int .i64 0, .string (⟨#[]⟩ : ByteArray), .int .i64 0, .int .i64 0, .slice none 0 0, .slice none 0 0, .slice none 0 0, .slice none 0 0, .int .i64 0, .int .i64 0, .int .i64 0, .int .i64 0, .slice none 0 0, .slice none 0 0, .slice none 0 0, .slice none 0 0] cA) fun c h4 => stN h4 c [.int .i64 au, .int .i64 av, .slice aw ax ay, .slice az b0 b1, .slice b2 b3 b4, .slice b5 b6 b7, .bool b8, .int .i64 b9, .int .i64 ba, .int .i64 bb, .string bc, .int .i64 bd, .int .i64 bf, .slice bg bh bi, .slice bj bk bl, .slice bm bn bo, .slice bp bq br, .int .i64 bt, .int .i64 bu, .int .i64 bv, .int .i64 bw, .slice bx bz c0, .slice c1 c2 c3, .slice c4 c5 c6, .slice c7 c8 c9] 0 fun h5 => ldI h5 (c.add 7) .i64 fun ca => BQ Tryz.prog vw (.map g) (.int .i64 ca) false h5 fun v h6 => ∃ l, v = .bool l ∧ if l = true then (Q (.tuple #[.pointer none, .int .i64 7]) h6) else (ldI h6 (c.add 7) .i64 fun cb => r8 Tryz.prog vw (.map g) (.int .i64 cb) (.bool true) h6 fun h7 => ldI h7 c .i64 fun cc => ldI h7 (c.add 1) .i64 fun cd => ldL h7 (c.add 2) fun ce cf cg => ldL h7 (c.add 3) fun ch ci cj => ldL h7 (c.add 4) fun ck cl cm => ldL h7 (c.add 5) fun cn co cp => ldB h7 (c.add 6) fun cq => ldI h7 (c.add 7) .i64 fun cr => ldI h7 (c.add 8) .i64 fun cs => ldI h7 (c.add 9) .i64 fun ct => ldS h7 (c.add 10) fun cu => ldI h7 (c.add 11) .i64 fun cv => ldI h7 (c.add 12) .i64 fun cw => ldL h7 (c.add 13) fun cx cy cz => ldL h7 (c.add 14) fun d0 d1 d2 => ldL h7 (c.add 15) fun d3 d4 d5 => ldL h7 (c.add 16) fun d6 d7 d8 => ldI h7 (c.add 17) .i64 fun d9 => ldI h7 (c.add 18) .i64 fun da => ldI h7 (c.add 19) .i64 fun db => ldI h7 (c.add 20) .i64 fun dc => ldL h7 (c.add 21) fun dd de df => ldL h7 (c.add 22) fun dg dh di => ldL h7 (c.add 23) fun dj dk dl => ldL h7 (c.add 24) fun dm dn dp => aD Tryz.prog nh #[.agg #[.int .i64 cc, .int .i64 cd, .slice ce cf cg, .slice ch ci cj, .slice ck cl cm, .slice cn co cp, .bool cq, .int .i64 cr, .int .i64 cs, .int .i64 ct, .string cu, .int .i64 cv, .int .i64 cw, .slice cx cy cz, .slice d0 d1 d2, .slice d3 d4 d5, .slice d6 d7 d8, .int .i64 d9, .int .i64 da, .int .i64 db, .int .i64 dc, .slice dd de df, .slice dg dh di, .slice dj dk dl, .slice dm dn dp]] h7 fun v h8 => ∃ m n o p q r s t u w x y z A B C D G I J L M N O P R S U V W X Y Z a0 a1 a2 a3 a4 a5 a6 a7 a8 a9 aa ab ac ad ae af, v = .agg #[.int .i64 m, .int .i64 n, .slice o p q, .slice r s t, .slice u w x, .slice y z A, .bool B, .int .i64 C, .int .i64 D, .int .i64 G, .string I, .int .i64 J, .int .i64 L, .slice M N O, .slice P R S, .slice U V W, .slice X Y Z, .int .i64 a0, .int .i64 a1, .int .i64 a2, .int .i64 a3, .slice a4 a5 a6, .slice a7 a8 a9, .slice aa ab ac, .slice ad ae af] ∧ alV h8 (.cells #[.int .i64 0, .int .i64 0, .slice none 0 0, .slice none 0 0, .slice none 0 0, .slice none 0 0, .bool false, .int .i64 0, .int .i64 0, .int .i64 0, .string (⟨#[]⟩ : ByteArray), .int .i64 0, .int .i64 0, .slice none 0 0, .slice none 0 0, .slice none 0 0, .slice none 0 0, .int .i64 0, .int .i64 0, .int .i64 0, .int .i64 0, .slice none 0 0, .slice none 0 0, .slice none 0 0, .slice none 0 0] cA) fun a h9 => stN h9 a [.int .i64 m, .int .i64 n, .slice o p q, .slice r s t, .slice u w x, .slice y z A, .bool B, .int .i64 C, .int .i64 D, .int .i64 G, .string I, .int .i64 J, .int .i64 L, .slice M N O, .slice P R S, .slice U V W, .slice X Y Z, .int .i64 a0, .int .i64 a1, .int .i64 a2, .int .i64 a3, .slice a4 a5 a6, .slice a7 a8 a9, .slice aa ab ac, .slice ad ae af] 0 fun h10 => ldL h10 f fun ag ah ai => ldI h10 a .i64 fun dq => ldI h10 (a.add 1) .i64 fun dr => ldL h10 (a.add 2) fun dt du dv => ldL h10 (a.add 3) fun dw dx dy => ldL h10 (a.add 4) fun dz f0 f1 => ldL h10 (a.add 5) fun f2 f3 f4 => ldB h10 (a.add 6) fun f5 => ldI h10 (a.add 7) .i64 fun f6 => ldI h10 (a.add 8) .i64 fun f7 => ldI h10 (a.add 9) .i64 fun f8 => ldS h10 (a.add 10) fun f9 => ldI h10 (a.add 11) .i64 fun fa => ldI h10 (a.add 12) .i64 fun fb => ldL h10 (a.add 13) fun fc fd fe => ldL h10 (a.add 14) fun ff fg fh => ldL h10 (a.add 15) fun fi fj fk => ldL h10 (a.add 16) fun fm fn fo => ldI h10 (a.add 17) .i64 fun fp => ldI h10 (a.add 18) .i64 fun fq => ldI h10 (a.add 19) .i64 fun fr => ldI h10 (a.add 20) .i64 fun fs => ldL h10 (a.add 21) fun ft fu fv => ldL h10 (a.add 22) fun fw fx fy => ldL h10 (a.add 23) fun fz g0 g1 => ldL h10 (a.add 24) fun g2 g3 g4 => alV h10 (.cells #[.int .i64 dq, .int .i64 dr, .slice dt du dv, .slice dw dx dy, .slice dz f0 f1, .slice f2 f3 f4, .bool f5, .int .i64 f6, .int .i64 f7, .int .i64 f8, .string f9, .int .i64 fa, .int .i64 fb, .slice fc fd fe, .slice ff fg fh, .slice fi fj fk, .slice fm fn fo, .int .i64 fp, .int .i64 fq, .int .i64 fr, .int .i64 fs, .slice ft fu fv, .slice fw fx fy, .slice fz g0 g1, .slice g2 g3 g4] cA) fun g5 h11 => (ldL h11 f fun g6 g7 g8 => (.slice g6 g7 g8 : Value) = .slice ag ah ai) ∧ cQ Tryz.prog .append #[nE, nE] nE #[false, false] #[.slice ag ah ai, .slice (some g5) 1 1] h11 fun v h12 => ∃ aj ak al, v = .slice aj ak al ∧ st1 h12 f (.slice aj ak al) fun h13 => ldI h13 a .i64 fun g9 => ldI h13 (a.add 1) .i64 fun ga => ldL h13 (a.add 2) fun gb gc gd => ldL h13 (a.add 3) fun gf gg gh => ldL h13 (a.add 4) fun gi gj gk => ldL h13 (a.add 5) fun gl gm gn => ldB h13 (a.add 6) fun go => ldI h13 (a.add 7) .i64 fun gp => ldI h13 (a.add 8) .i64 fun gq => ldI h13 (a.add 9) .i64 fun gr => ldS h13 (a.add 10) fun gs => ldI h13 (a.add 11) .i64 fun gu => ldI h13 (a.add 12) .i64 fun gv => ldL h13 (a.add 13) fun gw gx gy => ldL h13 (a.add 14) fun gz i0 i1 => ldL h13 (a.add 15) fun i2 i3 i4 => ldL h13 (a.add 16) fun i5 i6 i7 => ldI h13 (a.add 17) .i64 fun i8 => ldI h13 (a.add 18) .i64 fun i9 => ldI h13 (a.add 19) .i64 fun ia => ldI h13 (a.add 20) .i64 fun ib => alV h13 (.cells #[.int .i64 g9, .int .i64 ga, .slice gb gc gd, .slice gf gg gh, .slice gi gj gk, .slice gl gm gn, .bool go, .int .i64 gp, .int .i64 gq, .int .i64 gr, .string gs, .int .i64 gu, .int .i64 gv, .slice gw gx gy, .slice gz i0 i1, .slice i2 i3 i4, .slice i5 i6 i7, .int .i64 i8, .int .i64 i9, .int .i64 ia, .int .i64 ib] cK) fun ic h14 => cQ Tryz.prog .append #[pJ, pJ] pJ #[false, false] #[.slice i j k, .slice (some ic) 1 1] h14 fun v h15 => ∃ am an ao, v = .slice am an ao ∧ Kn1 (am, an, ao, wrap .i64 (b + 1)) h15))) else (ka f i j k Q h)
def r3 (b : Option Addr) (a c : Nat) (Q : QT) (h : aB) : Prop :=
 if (decide (((a : Nat) : Int) > 128)) = true then (Q (.tuple #[.pointer none, .int .i64 3]) h) else (FR h fun d h1 => alV h1 (.cells #[.slice none 0 0, .map (some d)] pE) fun f h2 => FR h2 fun g h3 => aH (fun (s : (Option Addr) × Nat × Nat × Int) h Kn => j5 f (some g) b a c ((a : Nat) : Int) Q s.1 s.2.1 s.2.2.1 s.2.2.2 h Kn) (none, 0, 0, 0) h3)
set_option maxRecDepth 100000 in
theorem xV (i j k : _) {Q : QT} {h : aB} (hk : r3 i j k Q h) : aD Tryz.prog ki #[.slice i j k] h Q :=
 aS follows Tryz.func9 (Tryz.call9 _) rfl rfl [(34, fun e h => dA (e 4) fun d => dL (e 6) fun a b c => ka d a b c Q h)] [(16, fun e h => dA (e 4) fun d => dM (e 5) fun l => dL (e 21) fun m n o => dI .i64 (e 22) fun p => dL (e 6) fun a b c => dI .i64 (e 23) fun f => aH (fun (s : (Option Addr) × Nat × Nat × Int) h Kn => j5 d l m n o p Q s.1 s.2.1 s.2.2.1 s.2.2.2 h Kn) (a, b, c, f) h), (36, fun e h => dA (e 4) fun d => dL (e 55) fun q r t => dI .i64 (e 56) fun u => dI .i64 (e 57) fun g => aH (fun (s : Int) h Kn => gC d q r t u Q s h Kn) g h)]
 ⟨fun e h _ hk => by
 have F := Ag.nil (e := e)
 have ⟨d, F, hk⟩ := eA F hk
 have ⟨a, b, c, F, hk⟩ := eL F hk
 exact fX F (by as_aux_lemma => kernel_rfl) hk, trivial⟩
 ⟨⟨by kernel_rfl, fun e h he hk => by
 have F := Ag.nil (e := e)
 have ⟨d, F, hk⟩ := eA F hk
 have ⟨l, F, hk⟩ := eM F hk
 have ⟨m, n, o, F, hk⟩ := eL F hk
 have ⟨p, F, hk⟩ := eI F hk
 have ⟨a, b, c, F, hk⟩ := eL F hk
 have ⟨f, F, hk⟩ := eI F hk
 exact bT (s0 := (a, b, c, f)) follows (fun _ h => by cases h) he F (fun s => [(23, .int .i64 s.2.2.2), (6, .slice s.1 s.2.1 s.2.2.1)]) (by kernel_rfl) (F.take 2) hk (fun Kn1 e h => dL (e 6) fun a b c => dI .i64 (e 23) fun f => Kn1 (a, b, c, f) h) (fun Kn1 e h hk => by
  have F := Ag.nil (e := e)
  have ⟨a, b, c, F, hk⟩ := eL F hk
  have ⟨f, F, hk⟩ := eI F hk
  exact ⟨(a, b, c, f), F, hk⟩)
  (fun Kn1 => []) (fun Kn1 => [])
  (fun Kn1 => trivial)
  (fun Kn1 => trivial) (fun e s h Kn1 => by as_aux_lemma => kernel_rfl)⟩, ⟨by kernel_rfl, fun e h he hk => by
 have F := Ag.nil (e := e)
 have ⟨d, F, hk⟩ := eA F hk
 have ⟨q, r, t, F, hk⟩ := eL F hk
 have ⟨u, F, hk⟩ := eI F hk
 have ⟨g, F, hk⟩ := eI F hk
 exact bT (s0 := g) follows (fun _ h => by cases h) he F (fun s => [(57, .int .i64 s)]) (by kernel_rfl) (F.take 1) hk (fun Kn3 e h => dI .i64 (e 57) fun g => Kn3 g h) (fun Kn3 e h hk => by
  have F := Ag.nil (e := e)
  have ⟨g, F, hk⟩ := eI F hk
  exact ⟨g, F, hk⟩)
  (fun Kn3 => []) (fun Kn3 => [])
  (fun Kn3 => trivial)
  (fun Kn3 => trivial) (fun e s h Kn3 => by as_aux_lemma => kernel_rfl)⟩, trivial⟩ (by as_aux_lemma => kernel_rfl) hk
def pj (c : Option Addr) (d k : Nat) (a : Int) (Q : QT) (Kn1 : Int → aB → Prop) (b : Int) (h : aB) (Kn2 : Int → aB → Prop) : Prop :=
 if (decide (b < a)) = true then (bO a d (nn c fun f => ldI h ((f.add (a.toNat * 25)).add 7) .i64 fun g => bO b d (nn c fun i => ldI h ((i.add (b.toNat * 25)).add 7) .i64 fun j => if (g == j) = true then (Q (.tuple #[.pointer none, .int .i64 7]) h) else (Kn2 (wrap .i64 (b + 1)) h)))) else (Kn1 (wrap .i64 (a + 1)) h)
def px (a : Option Addr) (b c : Nat) (Q : QT) (h : aB) : Prop :=
 alV h (.cells #[.slice a b c] vt) fun d h1 => Q (.tuple #[.pointer (some d), .int .i64 0]) h1
def pr (b : Option Addr) (a c : Nat) (Q : QT) (d : Int) (h : aB) (Kn1 : Int → aB → Prop) : Prop :=
 if (decide (d < ((a : Nat) : Int))) = true then (aH (fun (s : Int) h Kn => pj b a c d Q Kn1 s h Kn) 0 h) else (px b a c Q h)
def uU (b : Option Addr) (a c : Nat) (Q : QT) (h : aB) : Prop :=
 if (decide (((a : Nat) : Int) > 128)) = true then (Q (.tuple #[.pointer none, .int .i64 3]) h) else (aH (fun (s : Int) h Kn => pr b a c Q s h Kn) 0 h)
set_option maxRecDepth 100000 in
theorem As (a b c : _) {Q : QT} {h : aB} (hk : uU a b c Q h) : aD Tryz.prog ph #[.slice a b c] h Q :=
 aS follows Tryz.func10 (Tryz.call10 _) rfl rfl [(24, fun e h => dL (e 0) fun a b c => px a b c Q h)] [(10, fun e h => dL (e 0) fun a b c => dI .i64 (e 4) fun d => aH (fun (s : Int) h Kn => pr a b c Q s h Kn) d h)]
 ⟨fun e h _ hk => by
 have F := Ag.nil (e := e)
 have ⟨a, b, c, F, hk⟩ := eL F hk
 exact fX F (by as_aux_lemma => kernel_rfl) hk, trivial⟩
 ⟨⟨by kernel_rfl, fun e h he hk => by
 have F := Ag.nil (e := e)
 have ⟨a, b, c, F, hk⟩ := eL F hk
 have ⟨d, F, hk⟩ := eI F hk
 exact bT (s0 := d) follows (fun _ h => by cases h) he F (fun s => [(4, .int .i64 s)]) (by kernel_rfl) (F.take 1) hk (fun Kn1 e h => dI .i64 (e 4) fun d => Kn1 d h) (fun Kn1 e h hk => by
  have F := Ag.nil (e := e)
  have ⟨d, F, hk⟩ := eI F hk
  exact ⟨d, F, hk⟩)
  (fun Kn1 => []) (fun Kn1 => [(16, fun e h => dL (e 0) fun a b c => dI .i64 (e 4) fun d => dI .i64 (e 5) fun f => aH (fun (s : Int) h Kn => pj a b c d Q Kn1 s h Kn) f h)])
  (fun Kn1 => trivial)
  (fun Kn1 => ⟨⟨by kernel_rfl, fun e h he hk => by
 have F := Ag.nil (e := e)
 have ⟨a, b, c, F, hk⟩ := eL F hk
 have ⟨d, F, hk⟩ := eI F hk
 have ⟨f, F, hk⟩ := eI F hk
 exact bT (s0 := f) follows (tP (by kernel_rfl)) he F (fun s => [(5, .int .i64 s)]) (by kernel_rfl) (F.take 1) hk (fun Kn2 e h => dI .i64 (e 5) fun f => Kn2 f h) (fun Kn2 e h hk => by
  have F := Ag.nil (e := e)
  have ⟨f, F, hk⟩ := eI F hk
  exact ⟨f, F, hk⟩)
  (fun Kn2 => []) (fun Kn2 => [])
  (fun Kn2 => trivial)
  (fun Kn2 => trivial) (fun e s h Kn2 => by as_aux_lemma => kernel_rfl)⟩, trivial⟩) (fun e s h Kn1 => by as_aux_lemma => kernel_rfl)⟩, trivial⟩ (by as_aux_lemma => kernel_rfl) hk
def dJ (a : Addr) (i : Bool) (c b : Addr) (U : Option Addr) (V W : Nat) (X d : Int) (Q : QT) (Kn1 : Bool × Int → aB → Prop) (h : aB) : Prop :=
 ldP h a fun f => ldP h a fun j => nn j fun k => ldL h (k.add 11) fun l m n => ldP h b fun t => alV h (.cells #[.pointer t] fZ) fun u h19 => (ldP h19 a fun g => (.pointer g : Value) = .pointer f) ∧ (ldP h19 a fun w => (.pointer w : Value) = .pointer j) ∧ (ldL h19 (k.add 11) fun x y z => (.slice x y z : Value) = .slice l m n) ∧ cQ Tryz.prog .append #[dY, dY] dY #[false, false] #[.slice l m n, .slice (some u) 1 1] h19 fun v h20 => ∃ o p q, v = .slice o p q ∧ (ldP h20 a fun g => (.pointer g : Value) = .pointer f) ∧ nn f fun A => st1 h20 (A.add 11) (.slice o p q) fun h21 => ldP h21 c fun B => nn B fun C => ldL h21 (C.add 2) fun Y D Z => if (((D : Nat) : Int) == 0) = true then (Kn1 (i, wrap .i64 (d + 1)) h21) else (ldP h21 c fun G => nn G fun I => ldL h21 (I.add 1) fun a0 J a1 => if (((J : Nat) : Int) == 0) = true then (ldP h21 c fun L => nn L fun M => ldP h21 (M.add 5) fun N => aD Tryz.prog eu #[.pointer N] h21 fun v h22 => ∃ r, v = .pointer r ∧ alV h22 (.cells #[.pointer none] vp) fun s h23 => st1 h23 s (.pointer r) fun h24 => ldP h24 b fun O => nn O fun P => st1 h24 (P.add 2) (.func (.func 36) #[] #[.pointer (some a), .pointer (some b), .pointer (some s)]) fun h25 => Kn1 (i, wrap .i64 (d + 1)) h25) else (ldP h21 b fun R => nn R fun S => st1 h21 (S.add 3) (.func (.func 39) #[] #[.pointer (some c), .pointer (some a), .pointer (some b)]) fun h26 => Kn1 (true, wrap .i64 (d + 1)) h26))
def jn (a : Addr) (s : Bool) (Q : QT) (h : aB) : Prop :=
 if s = true then (ldP h a fun c => ldP h a fun j => nn j fun k => ldL h (k.add 11) fun l m n => alV h (.cells #[.int .i64 0, .slice none 0 0, .slice none 0 0, .slice none 0 0, .slice none 0 0, .pointer none] kF) fun t h27 => (ldP h27 a fun b => (.pointer b : Value) = .pointer c) ∧ (ldP h27 a fun d => (.pointer d : Value) = .pointer j) ∧ (ldL h27 (k.add 11) fun f g i => (.slice f g i : Value) = .slice l m n) ∧ alV h27 (.cells #[.pointer (some t), .slice none 0 0, .func (.func 41) #[] #[.pointer (some a)], .func (.func 42) #[] #[]] jK) fun u h28 => (ldP h28 a fun b => (.pointer b : Value) = .pointer c) ∧ (ldP h28 a fun d => (.pointer d : Value) = .pointer j) ∧ (ldL h28 (k.add 11) fun f g i => (.slice f g i : Value) = .slice l m n) ∧ alV h28 (.cells #[.pointer (some u)] fZ) fun w h29 => (ldP h29 a fun b => (.pointer b : Value) = .pointer c) ∧ (ldP h29 a fun d => (.pointer d : Value) = .pointer j) ∧ (ldL h29 (k.add 11) fun f g i => (.slice f g i : Value) = .slice l m n) ∧ cQ Tryz.prog .append #[dY, dY] dY #[false, false] #[.slice l m n, .slice (some w) 1 1] h29 fun v h30 => ∃ p q r, v = .slice p q r ∧ (ldP h30 a fun b => (.pointer b : Value) = .pointer c) ∧ nn c fun x => st1 h30 (x.add 11) (.slice p q r) fun h31 => ldP h31 a fun o => Q (.pointer o) h31) else (ldP h a fun o => Q (.pointer o) h)
def lO (q : Addr) (r : Option Addr) (s y : Nat) (t : Int) (Q : QT) (u : Bool) (g : Int) (h : aB) (Kn1 : Bool × Int → aB → Prop) : Prop :=
 if (decide (g < t)) = true then (bO g s (nn r fun B => ldP h (B.add (g.toNat * 1)) fun C => alV h (.cells #[.pointer none] fG) fun a h6 => st1 h6 a (.pointer C) fun h7 => ldP h7 a fun c => ldP h7 a fun w => nn w fun x => ldL h7 (x.add 2) fun z f A => (yg Tryz.prog qL (.int .i64 ((f : Nat) : Int)) (.int .i64 ((f : Nat) : Int)) h7 fun v h8 => ∃ i j k, v = .slice i j k ∧ (ldP h8 a fun b => (.pointer b : Value) = .pointer c) ∧ (alV h8 (.cells #[.pointer c, .slice i j k, .func (.func 33) #[] #[], .func (.func 34) #[] #[]] jK) fun l h9 => alV h9 (.cells #[.pointer none] fZ) fun d h10 => (ldP h10 a fun b => (.pointer b : Value) = .pointer c) ∧ (ldP h10 a fun m => (.pointer m : Value) = .pointer w) ∧ (ldL h10 (x.add 2) fun n o p => (.slice n o p : Value) = .slice z f A) ∧ st1 h10 d (.pointer (some l)) fun h11 => dJ q u a d r s y t g Q Kn1 h11) ∧ (alV h8 (.cells #[.pointer none] fZ) fun d h12 => (ldP h12 a fun b => (.pointer b : Value) = .pointer c) ∧ (ldP h12 a fun m => (.pointer m : Value) = .pointer w) ∧ (ldL h12 (x.add 2) fun n o p => (.slice n o p : Value) = .slice z f A) ∧ alV h12 (.cells #[.pointer c, .slice i j k, .func (.func 33) #[] #[], .func (.func 34) #[] #[]] jK) fun l h13 => st1 h13 d (.pointer (some l)) fun h14 => dJ q u a d r s y t g Q Kn1 h14)) ∧ (alV h7 (.cells #[.pointer none] fZ) fun d h15 => (ldP h15 a fun b => (.pointer b : Value) = .pointer c) ∧ (ldP h15 a fun m => (.pointer m : Value) = .pointer w) ∧ (ldL h15 (x.add 2) fun n o p => (.slice n o p : Value) = .slice z f A) ∧ yg Tryz.prog qL (.int .i64 ((f : Nat) : Int)) (.int .i64 ((f : Nat) : Int)) h15 fun v h16 => ∃ i j k, v = .slice i j k ∧ (ldP h16 a fun b => (.pointer b : Value) = .pointer c) ∧ alV h16 (.cells #[.pointer c, .slice i j k, .func (.func 33) #[] #[], .func (.func 34) #[] #[]] jK) fun l h17 => st1 h17 d (.pointer (some l)) fun h18 => dJ q u a d r s y t g Q Kn1 h18))) else (jn q u Q h)
def qr (b : Option Addr) (i : Int) (j : Bool) (k l : Int) (m : Bool) (n o p q r t : Int) (Q : QT) (h : aB) : Prop :=
 alV h (.cells #[.int .i64 i, .bool j, .int .u64 k, .int .u64 l, .bool m, .int .u64 n, .int .u64 o, .int .i64 p, .int .i64 q] hU) fun a h1 => if (Option.isNone b) = true then (Q (.pointer none) h1) else (ldI h1 a .i64 fun u => ldB h1 (a.add 1) fun w => ldI h1 (a.add 2) .u64 fun x => ldI h1 (a.add 3) .u64 fun y => ldB h1 (a.add 4) fun z => ldI h1 (a.add 5) .u64 fun A => ldI h1 (a.add 6) .u64 fun B => ldI h1 (a.add 7) .i64 fun C => ldI h1 (a.add 8) .i64 fun D => alV h1 (.cells #[.pointer b, .int .i64 u, .bool w, .int .u64 x, .int .u64 y, .bool z, .int .u64 A, .int .u64 B, .int .i64 C, .int .i64 D, .int .i64 t, .slice none 0 0, .slice none 0 0, .int .i64 0, .bool false, .slice none 0 0] iI) fun G h2 => alV h2 (.cells #[.pointer none] sV) fun d h3 => st1 h3 d (.pointer (some G)) fun h4 => nn b fun I => ldM h4 (I.add 1) fun J => BQ Tryz.prog bP (.map J) (.int .i64 r) false h4 fun v h5 => ∃ f c g, v = .slice f c g ∧ aH (fun (s : Bool × Int) h Kn => lO d f c g ((c : Nat) : Int) Q s.1 s.2 h Kn) (false, 0) h5)
set_option maxRecDepth 100000 in
theorem wC (j k l m n o p q r t u w : _) {Q : QT} {h : aB} (hk : qr j k l m n o p q r t u w Q h) : aD Tryz.prog jf #[.pointer j, .agg #[.int .i64 k, .bool l, .int .u64 m, .int .u64 n, .bool o, .int .u64 p, .int .u64 q, .int .i64 r, .int .i64 t], .int .i64 u, .int .i64 w] h Q :=
 aS follows Tryz.func11 (Tryz.call11 _) rfl rfl [(36, fun e h => dA (e 9) fun c => dB (e 10) fun a => jn c a Q h)] [(14, fun e h => dA (e 9) fun c => dL (e 27) fun d f g => dI .i64 (e 28) fun i => dB (e 10) fun a => dI .i64 (e 29) fun b => aH (fun (s : Bool × Int) h Kn => lO c d f g i Q s.1 s.2 h Kn) (a, b) h)]
 ⟨fun e h _ hk => by
 have F := Ag.nil (e := e)
 have ⟨c, F, hk⟩ := eA F hk
 have ⟨a, F, hk⟩ := eB F hk
 exact fX F (by as_aux_lemma => kernel_rfl) hk, trivial⟩
 ⟨⟨by kernel_rfl, fun e h he hk => by
 have F := Ag.nil (e := e)
 have ⟨c, F, hk⟩ := eA F hk
 have ⟨d, f, g, F, hk⟩ := eL F hk
 have ⟨i, F, hk⟩ := eI F hk
 have ⟨a, F, hk⟩ := eB F hk
 have ⟨b, F, hk⟩ := eI F hk
 exact bT (s0 := (a, b)) follows (fun _ h => by cases h) he F (fun s => [(29, .int .i64 s.2), (10, .bool s.1)]) (by kernel_rfl) (F.take 2) hk (fun Kn1 e h => dB (e 10) fun a => dI .i64 (e 29) fun b => Kn1 (a, b) h) (fun Kn1 e h hk => by
  have F := Ag.nil (e := e)
  have ⟨a, F, hk⟩ := eB F hk
  have ⟨b, F, hk⟩ := eI F hk
  exact ⟨(a, b), F, hk⟩)
  (fun Kn1 => [(20, fun e h => dA (e 9) fun c => dB (e 10) fun a => dA (e 12) fun x => dA (e 13) fun y => dL (e 27) fun d f g => dI .i64 (e 28) fun i => dI .i64 (e 29) fun b => dJ c a x y d f g i b Q Kn1 h)]) (fun Kn1 => [])
  (fun Kn1 => ⟨fun e h _ hk => by
 have F := Ag.nil (e := e)
 have ⟨c, F, hk⟩ := eA F hk
 have ⟨a, F, hk⟩ := eB F hk
 have ⟨x, F, hk⟩ := eA F hk
 have ⟨y, F, hk⟩ := eA F hk
 have ⟨d, f, g, F, hk⟩ := eL F hk
 have ⟨i, F, hk⟩ := eI F hk
 have ⟨b, F, hk⟩ := eI F hk
 exact fX F (by as_aux_lemma => kernel_rfl) hk, trivial⟩)
  (fun Kn1 => trivial) (fun e s h Kn1 => by as_aux_lemma => kernel_rfl)⟩, trivial⟩ (by as_aux_lemma => kernel_rfl) hk
def lP (b : ByteArray) (c : Option Addr) (d l : Nat) (f : Int) (Q : QT) (a : Int) (h : aB) (Kn1 : Int → aB → Prop) : Prop :=
 if (decide (a < f)) = true then (bO a d (nn c fun g => ldP h (g.add (a.toNat * 1)) fun i => nn i fun j => ldV h (j.add 2) fun k => my Tryz.prog k #[.string b] h fun v h1 => v = .tuple #[] ∧ Kn1 (wrap .i64 (a + 1)) h1)) else (Q (.tuple #[]) h)
def qu (a : Option Addr) (c : ByteArray) (Q : QT) (h : aB) : Prop :=
 if (Option.isNone a) = true then (Q (.tuple #[]) h) else (nn a fun d => ldB h (d.add 14) fun f => if f = true then (Q (.tuple #[]) h) else (nn a fun g => ldL h (g.add 11) fun i b j => aH (fun (s : Int) h Kn => lP c i b j ((b : Nat) : Int) Q s h Kn) 0 h))
set_option maxRecDepth 100000 in
theorem wD (c b : _) {Q : QT} {h : aB} (hk : qu c b Q h) : aD Tryz.prog gS #[.pointer c, .string b] h Q :=
 aS follows Tryz.func13 (Tryz.call13 _) rfl rfl [] [(6, fun e h => dS (e 1) fun b => dL (e 17) fun d f g => dI .i64 (e 18) fun i => dI .i64 (e 19) fun a => aH (fun (s : Int) h Kn => lP b d f g i Q s h Kn) a h)]
 trivial
 ⟨⟨by kernel_rfl, fun e h he hk => by
 have F := Ag.nil (e := e)
 have ⟨b, F, hk⟩ := eS F hk
 have ⟨d, f, g, F, hk⟩ := eL F hk
 have ⟨i, F, hk⟩ := eI F hk
 have ⟨a, F, hk⟩ := eI F hk
 exact bT (s0 := a) follows (fun _ h => by cases h) he F (fun s => [(19, .int .i64 s)]) (by kernel_rfl) (F.take 1) hk (fun Kn1 e h => dI .i64 (e 19) fun a => Kn1 a h) (fun Kn1 e h hk => by
  have F := Ag.nil (e := e)
  have ⟨a, F, hk⟩ := eI F hk
  exact ⟨a, F, hk⟩)
  (fun Kn1 => []) (fun Kn1 => [])
  (fun Kn1 => trivial)
  (fun Kn1 => trivial) (fun e s h Kn1 => by as_aux_lemma => kernel_rfl)⟩, trivial⟩ (by as_aux_lemma => kernel_rfl) hk
def qq (a : Option Addr) (Q : QT) (h : aB) : Prop :=
 if (Option.isNone a) = true then (Q (.int .i64 0) h) else (nn a fun b => ldI h (b.add 13) .i64 fun c => Q (.int .i64 c) h)
set_option maxRecDepth 100000 in
theorem wE (a : _) {Q : QT} {h : aB} (hk : qq a Q h) : aD Tryz.prog lI #[.pointer a] h Q :=
 aS follows Tryz.func15 (Tryz.call15 _) rfl rfl [] []
 trivial
 trivial (by as_aux_lemma => kernel_rfl) hk
def dH (b : Addr) (i J : Option Addr) (L M : Nat) (N j : Int) (k : Option Addr) (l O : Nat) (m : Int) (Q : QT) (Kn1 : Int → aB → Prop) (a : Int) (h : aB) (Kn2 : Int → aB → Prop) : Prop :=
 if (decide (a < m)) = true then (bO a l (nn k fun n => ldB h (n.add (a.toNat * 1)) fun o => if o = true then (ldP h b fun c => ldP h b fun p => nn p fun q => ldL h (q.add 15) fun r s t => nn i fun u => ldP h u fun w => nn w fun x => ldL h (x.add 3) fun y z P => bO a z (nn y fun A => ldL h (A.add (a.toNat * 1)) fun B C D => cQ Tryz.prog .append #[bG, bG] bG #[false, false] #[.slice r s t, .slice B C D] h fun v h6 => ∃ d f g, v = .slice d f g ∧ (ldP h6 b fun G => (.pointer G : Value) = .pointer c) ∧ nn c fun I => st1 h6 (I.add 15) (.slice d f g) fun h7 => Kn2 (wrap .i64 (a + 1)) h7)) else (Kn2 (wrap .i64 (a + 1)) h))) else (Kn1 (wrap .i64 (j + 1)) h)
def eZ (d : Addr) (Q : QT) (h : aB) : Prop :=
 ldP h d fun f => nn f fun g => ldL h (g.add 15) fun i j k => aD Tryz.prog cX #[.slice i j k] h fun v h13 => ∃ a b c, v = .slice a b c ∧ Q (.slice a b c) h13
def eY (a : Addr) (Q : QT) (h : aB) : Prop :=
 ldP h a fun b => ldP h a fun l => nn l fun m => ldL h (m.add 15) fun n o p => aD Tryz.prog gZ #[.slice n o p, .func (.func 46) #[] #[.pointer (some a)]] h fun v h8 => ∃ c d f, v = .slice c d f ∧ (ldP h8 a fun q => (.pointer q : Value) = .pointer b) ∧ nn b fun r => st1 h8 (r.add 15) (.slice c d f) fun h9 => ldP h9 a fun s => nn s fun t => ldL h9 (t.add 15) fun u w x => aD Tryz.prog ir #[.slice u w x] h9 fun v h10 => v = .tuple #[] ∧ ldP h10 a fun g => ldP h10 a fun y => nn y fun z => ldL h10 (z.add 15) fun A B C => aD Tryz.prog iY #[.slice A B C] h10 fun v h11 => ∃ i j k, v = .slice i j k ∧ (ldP h11 a fun D => (.pointer D : Value) = .pointer g) ∧ nn g fun G => st1 h11 (G.add 15) (.slice i j k) fun h12 => eZ a Q h12
def iP (a : Addr) (d : Option Addr) (f n : Nat) (g : Int) (Q : QT) (b : Int) (h : aB) (Kn1 : Int → aB → Prop) : Prop :=
 if (decide (b < g)) = true then (bO b f (nn d fun o => ldP h (o.add (b.toNat * 1)) fun c => nn c fun p => ldV h (p.add 3) fun q => my Tryz.prog q #[] h fun v h3 => v = .tuple #[] ∧ ldP h3 a fun i => ldP h3 a fun r => nn r fun t => ldL h3 (t.add 15) fun u w x => nn c fun y => ldP h3 y fun z => nn z fun A => ldL h3 (A.add 4) fun B C D => cQ Tryz.prog .append #[bG, bG] bG #[false, false] #[.slice u w x, .slice B C D] h3 fun v h4 => ∃ j k l, v = .slice j k l ∧ (ldP h4 a fun G => (.pointer G : Value) = .pointer i) ∧ nn i fun I => st1 h4 (I.add 15) (.slice j k l) fun h5 => nn c fun J => ldL h5 (J.add 1) fun L m M => aH (fun (s : Int) h Kn => dH a c d f n g b L m M ((m : Nat) : Int) Q Kn1 s h Kn) 0 h5)) else (eY a Q h)
def mg (c : Option Addr) (Q : QT) (h : aB) : Prop :=
 alV h (.cells #[.pointer c] sV) fun a h1 => ldP h1 a fun d => if (Option.isNone d) = true then (Q (.slice none 0 0) h1) else (ldP h1 a fun f => nn f fun g => ldB h1 (g.add 14) fun i => if (!i) = true then (ldP h1 a fun j => nn j fun k => st1 h1 (k.add 14) (.bool true) fun h2 => ldP h2 a fun l => nn l fun m => ldL h2 (m.add 11) fun n b o => aH (fun (s : Int) h Kn => iP a n b o ((b : Nat) : Int) Q s h Kn) 0 h2) else (eZ a Q h1))
set_option maxRecDepth 100000 in
theorem rQ (j : _) {Q : QT} {h : aB} (hk : mg j Q h) : aD Tryz.prog fE #[.pointer j] h Q :=
 aS follows Tryz.func17 (Tryz.call17 _) rfl rfl [(36, fun e h => dA (e 1) fun a => eY a Q h), (42, fun e h => dA (e 1) fun a => eZ a Q h)] [(14, fun e h => dA (e 1) fun a => dL (e 20) fun d f g => dI .i64 (e 21) fun i => dI .i64 (e 22) fun b => aH (fun (s : Int) h Kn => iP a d f g i Q s h Kn) b h)]
 ⟨fun e h _ hk => by
 have F := Ag.nil (e := e)
 have ⟨a, F, hk⟩ := eA F hk
 exact fX F (by as_aux_lemma => kernel_rfl) hk, fun e h _ hk => by
 have F := Ag.nil (e := e)
 have ⟨a, F, hk⟩ := eA F hk
 exact fX F (by as_aux_lemma => kernel_rfl) hk, trivial⟩
 ⟨⟨by kernel_rfl, fun e h he hk => by
 have F := Ag.nil (e := e)
 have ⟨a, F, hk⟩ := eA F hk
 have ⟨d, f, g, F, hk⟩ := eL F hk
 have ⟨i, F, hk⟩ := eI F hk
 have ⟨b, F, hk⟩ := eI F hk
 exact bT (s0 := b) follows (fun _ h => by cases h) he F (fun s => [(22, .int .i64 s)]) (by kernel_rfl) (F.take 1) hk (fun Kn1 e h => dI .i64 (e 22) fun b => Kn1 b h) (fun Kn1 e h hk => by
  have F := Ag.nil (e := e)
  have ⟨b, F, hk⟩ := eI F hk
  exact ⟨b, F, hk⟩)
  (fun Kn1 => []) (fun Kn1 => [(24, fun e h => dA (e 1) fun a => dP (e 4) fun k => dL (e 20) fun d f g => dI .i64 (e 21) fun i => dI .i64 (e 22) fun b => dL (e 50) fun l m n => dI .i64 (e 51) fun o => dI .i64 (e 52) fun c => aH (fun (s : Int) h Kn => dH a k d f g i b l m n o Q Kn1 s h Kn) c h)])
  (fun Kn1 => trivial)
  (fun Kn1 => ⟨⟨by kernel_rfl, fun e h he hk => by
 have F := Ag.nil (e := e)
 have ⟨a, F, hk⟩ := eA F hk
 have ⟨k, F, hk⟩ := eP F hk
 have ⟨d, f, g, F, hk⟩ := eL F hk
 have ⟨i, F, hk⟩ := eI F hk
 have ⟨b, F, hk⟩ := eI F hk
 have ⟨l, m, n, F, hk⟩ := eL F hk
 have ⟨o, F, hk⟩ := eI F hk
 have ⟨c, F, hk⟩ := eI F hk
 exact bT (s0 := c) follows (tP (by kernel_rfl)) he F (fun s => [(52, .int .i64 s)]) (by kernel_rfl) (F.take 1) hk (fun Kn2 e h => dI .i64 (e 52) fun c => Kn2 c h) (fun Kn2 e h hk => by
  have F := Ag.nil (e := e)
  have ⟨c, F, hk⟩ := eI F hk
  exact ⟨c, F, hk⟩)
  (fun Kn2 => []) (fun Kn2 => [])
  (fun Kn2 => trivial)
  (fun Kn2 => trivial) (fun e s h Kn2 => by as_aux_lemma => kernel_rfl)⟩, trivial⟩) (fun e s h Kn1 => by as_aux_lemma => kernel_rfl)⟩, trivial⟩ (by as_aux_lemma => kernel_rfl) hk
def sC (c : Option Addr) (b l : Nat) (d : Option Addr) (f m : Nat) (Q : QT) (a : Int) (h : aB) (Kn1 : Int → aB → Prop) : Prop :=
 if (decide (a < ((b : Nat) : Int))) = true then (bO a b (nn c fun g => ldI h (g.add (a.toNat * 1)) .i64 fun i => bO a f (nn d fun j => ldI h (j.add (a.toNat * 1)) .i64 fun k => if (i != k) = true then (Q (.bool false) h) else (Kn1 (wrap .i64 (a + 1)) h)))) else (Q (.bool true) h)
def yG (c : Option Addr) (a d : Nat) (f : Option Addr) (b g : Nat) (Q : QT) (h : aB) : Prop :=
 if (((a : Nat) : Int) != ((b : Nat) : Int)) = true then (Q (.bool false) h) else (aH (fun (s : Int) h Kn => sC c a d f b g Q s h Kn) 0 h)
set_option maxRecDepth 100000 in
theorem DN (b c d f g i : _) {Q : QT} {h : aB} (hk : yG b c d f g i Q h) : aD Tryz.prog kK #[.slice b c d, .slice f g i] h Q :=
 aS follows Tryz.func18 (Tryz.call18 _) rfl rfl [] [(10, fun e h => dL (e 0) fun b c d => dL (e 1) fun f g i => dI .i64 (e 5) fun a => aH (fun (s : Int) h Kn => sC b c d f g i Q s h Kn) a h)]
 trivial
 ⟨⟨by kernel_rfl, fun e h he hk => by
 have F := Ag.nil (e := e)
 have ⟨b, c, d, F, hk⟩ := eL F hk
 have ⟨f, g, i, F, hk⟩ := eL F hk
 have ⟨a, F, hk⟩ := eI F hk
 exact bT (s0 := a) follows (fun _ h => by cases h) he F (fun s => [(5, .int .i64 s)]) (by kernel_rfl) (F.take 1) hk (fun Kn1 e h => dI .i64 (e 5) fun a => Kn1 a h) (fun Kn1 e h hk => by
  have F := Ag.nil (e := e)
  have ⟨a, F, hk⟩ := eI F hk
  exact ⟨a, F, hk⟩)
  (fun Kn1 => []) (fun Kn1 => [])
  (fun Kn1 => trivial)
  (fun Kn1 => trivial) (fun e s h Kn1 => by as_aux_lemma => kernel_rfl)⟩, trivial⟩ (by as_aux_lemma => kernel_rfl) hk
def mp (i : Option Addr) (j : Int) (k : Bool) (l m : Int) (n : Bool) (o p q r s t u : Int) (w : ByteArray) (Q : QT) (h : aB) : Prop :=
 alV h (.cells #[.int .i64 j, .bool k, .int .u64 l, .int .u64 m, .bool n, .int .u64 o, .int .u64 p, .int .i64 q, .int .i64 r] hU) fun a h1 => alV h1 (.cells #[.int .i64 s, .int .i64 t, .int .i64 u, .string w] od) fun b h2 => ldI h2 a .i64 fun x => ldB h2 (a.add 1) fun y => ldI h2 (a.add 2) .u64 fun z => ldI h2 (a.add 3) .u64 fun A => ldB h2 (a.add 4) fun B => ldI h2 (a.add 5) .u64 fun C => ldI h2 (a.add 6) .u64 fun D => ldI h2 (a.add 7) .i64 fun G => ldI h2 (a.add 8) .i64 fun I => ldI h2 b .i64 fun J => ldI h2 (b.add 1) .i64 fun L => aD Tryz.prog jf #[.pointer i, .agg #[.int .i64 x, .bool y, .int .u64 z, .int .u64 A, .bool B, .int .u64 C, .int .u64 D, .int .i64 G, .int .i64 I], .int .i64 J, .int .i64 L] h2 fun v h3 => ∃ c, v = .pointer c ∧ ldS h3 (b.add 3) fun M => aD Tryz.prog gS #[.pointer c, .string M] h3 fun v h4 => v = .tuple #[] ∧ aD Tryz.prog fE #[.pointer c] h4 fun v h5 => ∃ d f g, v = .slice d f g ∧ Q (.slice d f g) h5
set_option maxRecDepth 100000 in
theorem sN (a b c d f g i j k l m n o p : _) {Q : QT} {h : aB} (hk : mp a b c d f g i j k l m n o p Q h) : aD Tryz.prog fL #[.pointer a, .agg #[.int .i64 b, .bool c, .int .u64 d, .int .u64 f, .bool g, .int .u64 i, .int .u64 j, .int .i64 k, .int .i64 l], .agg #[.int .i64 m, .int .i64 n, .int .i64 o, .string p]] h Q :=
 aS follows Tryz.func20 (Tryz.call20 _) rfl rfl [] []
 trivial
 trivial (by as_aux_lemma => kernel_rfl) hk
def rU (a : Option Addr) (Q : QT) (h : aB) : Prop :=
 if (Option.isNone a) = true then (Q (.int .i64 0) h) else (nn a fun b => ldL h b fun d c f => Q (.int .i64 ((c : Nat) : Int)) h)
set_option maxRecDepth 100000 in
theorem yL (a : _) {Q : QT} {h : aB} (hk : rU a Q h) : aD Tryz.prog j8 #[.pointer a] h Q :=
 aS follows Tryz.func22 (Tryz.call22 _) rfl rfl [] []
 trivial
 trivial (by as_aux_lemma => kernel_rfl) hk
def kW (m : Option Addr) (n : Int) (c : Addr) (o : Int) (Q : QT) (d : Option Addr) (f g : Nat) (a : Int) (h : aB) (Kn1 : (Option Addr) × Nat × Nat × Int → aB → Prop) : Prop :=
 if (decide (a < o)) = true then (nn m fun p => ldL h p fun q r ay => bO a r (nn q fun b => ldI h (b.add (a.toNat * 25)) .i64 fun s => ldI h ((b.add (a.toNat * 25)).add 1) .i64 fun t => ldL h ((b.add (a.toNat * 25)).add 2) fun u w x => ldL h ((b.add (a.toNat * 25)).add 3) fun y z A => ldL h ((b.add (a.toNat * 25)).add 4) fun B C D => ldL h ((b.add (a.toNat * 25)).add 5) fun G I J => ldB h ((b.add (a.toNat * 25)).add 6) fun L => ldI h ((b.add (a.toNat * 25)).add 7) .i64 fun M => ldI h ((b.add (a.toNat * 25)).add 8) .i64 fun N => ldI h ((b.add (a.toNat * 25)).add 9) .i64 fun O => ldS h ((b.add (a.toNat * 25)).add 10) fun P => ldI h ((b.add (a.toNat * 25)).add 11) .i64 fun R => ldI h ((b.add (a.toNat * 25)).add 12) .i64 fun S => ldL h ((b.add (a.toNat * 25)).add 13) fun U V W => ldL h ((b.add (a.toNat * 25)).add 14) fun X Y Z => ldL h ((b.add (a.toNat * 25)).add 15) fun a0 a1 a2 => ldL h ((b.add (a.toNat * 25)).add 16) fun a3 a4 a5 => ldI h ((b.add (a.toNat * 25)).add 17) .i64 fun a6 => ldI h ((b.add (a.toNat * 25)).add 18) .i64 fun a7 => ldI h ((b.add (a.toNat * 25)).add 19) .i64 fun a8 => ldI h ((b.add (a.toNat * 25)).add 20) .i64 fun a9 => ldL h ((b.add (a.toNat * 25)).add 21) fun aa ab ac => ldL h ((b.add (a.toNat * 25)).add 22) fun ad ae af => ldL h ((b.add (a.toNat * 25)).add 23) fun ag ah ai => ldL h ((b.add (a.toNat * 25)).add 24) fun aj ak al => ldI h c .i64 fun am => ldB h (c.add 1) fun an => ldI h (c.add 2) .u64 fun ao => ldI h (c.add 3) .u64 fun ap => ldB h (c.add 4) fun aq => ldI h (c.add 5) .u64 fun ar => ldI h (c.add 6) .u64 fun au => ldI h (c.add 7) .i64 fun av => ldI h (c.add 8) .i64 fun aw => aD Tryz.prog jm #[.agg #[.int .i64 s, .int .i64 t, .slice u w x, .slice y z A, .slice B C D, .slice G I J, .bool L, .int .i64 M, .int .i64 N, .int .i64 O, .string P, .int .i64 R, .int .i64 S, .slice U V W, .slice X Y Z, .slice a0 a1 a2, .slice a3 a4 a5, .int .i64 a6, .int .i64 a7, .int .i64 a8, .int .i64 a9, .slice aa ab ac, .slice ad ae af, .slice ag ah ai, .slice aj ak al], .agg #[.int .i64 am, .bool an, .int .u64 ao, .int .u64 ap, .bool aq, .int .u64 ar, .int .u64 au, .int .i64 av, .int .i64 aw], .int .i64 n] h fun v h3 => ∃ i, v = .bool i ∧ if i = true then (alV h3 (.cells #[.int .i64 a] oF) fun ax h4 => cQ Tryz.prog .append #[bG, bG] bG #[false, false] #[.slice d f g, .slice (some ax) 1 1] h4 fun v h5 => ∃ j k l, v = .slice j k l ∧ Kn1 (j, k, l, wrap .i64 (a + 1)) h5) else (Kn1 (d, f, g, wrap .i64 (a + 1)) h3))) else (Q (.slice d f g) h)
def pK (a : Option Addr) (c : Int) (d : Bool) (f g : Int) (i : Bool) (j k l m n : Int) (Q : QT) (h : aB) : Prop :=
 alV h (.cells #[.int .i64 c, .bool d, .int .u64 f, .int .u64 g, .bool i, .int .u64 j, .int .u64 k, .int .i64 l, .int .i64 m] hU) fun o h1 => aD Tryz.prog j8 #[.pointer a] h1 fun v h2 => ∃ b, v = .int .i64 b ∧ aH (fun (s : (Option Addr) × Nat × Nat × Int) h Kn => kW a n o b Q s.1 s.2.1 s.2.2.1 s.2.2.2 h Kn) (none, 0, 0, 0) h2
set_option maxRecDepth 100000 in
theorem vD (f i j k l m n o p q g : _) {Q : QT} {h : aB} (hk : pK f i j k l m n o p q g Q h) : aD Tryz.prog kL #[.pointer f, .agg #[.int .i64 i, .bool j, .int .u64 k, .int .u64 l, .bool m, .int .u64 n, .int .u64 o, .int .i64 p, .int .i64 q], .int .i64 g] h Q :=
 aS follows Tryz.func23 (Tryz.call23 _) rfl rfl [] [(8, fun e h => dP (e 0) fun f => dI .i64 (e 2) fun g => dA (e 4) fun r => dI .i64 (e 10) fun t => dL (e 7) fun a b c => dI .i64 (e 11) fun d => aH (fun (s : (Option Addr) × Nat × Nat × Int) h Kn => kW f g r t Q s.1 s.2.1 s.2.2.1 s.2.2.2 h Kn) (a, b, c, d) h)]
 trivial
 ⟨⟨by kernel_rfl, fun e h he hk => by
 have F := Ag.nil (e := e)
 have ⟨f, F, hk⟩ := eP F hk
 have ⟨g, F, hk⟩ := eI F hk
 have ⟨r, F, hk⟩ := eA F hk
 have ⟨t, F, hk⟩ := eI F hk
 have ⟨a, b, c, F, hk⟩ := eL F hk
 have ⟨d, F, hk⟩ := eI F hk
 exact bT (s0 := (a, b, c, d)) follows (fun _ h => by cases h) he F (fun s => [(11, .int .i64 s.2.2.2), (7, .slice s.1 s.2.1 s.2.2.1)]) (by kernel_rfl) (F.take 2) hk (fun Kn1 e h => dL (e 7) fun a b c => dI .i64 (e 11) fun d => Kn1 (a, b, c, d) h) (fun Kn1 e h hk => by
  have F := Ag.nil (e := e)
  have ⟨a, b, c, F, hk⟩ := eL F hk
  have ⟨d, F, hk⟩ := eI F hk
  exact ⟨(a, b, c, d), F, hk⟩)
  (fun Kn1 => []) (fun Kn1 => [])
  (fun Kn1 => trivial)
  (fun Kn1 => trivial) (fun e s h Kn1 => by as_aux_lemma => kernel_rfl)⟩, trivial⟩ (by as_aux_lemma => kernel_rfl) hk
def mj (i : Option Addr) (n : Int) (c : Addr) (Q : QT) (d : Option Addr) (f g : Nat) (a : Int) (h : aB) (Kn1 : (Option Addr) × Nat × Nat × Int → aB → Prop) : Prop :=
 nn i fun o => ldL h o fun az p b0 => if (decide (a < ((p : Nat) : Int))) = true then (nn i fun q => ldL h q fun r s b1 => bO a s (nn r fun b => ldI h (b.add (a.toNat * 25)) .i64 fun t => ldI h ((b.add (a.toNat * 25)).add 1) .i64 fun u => ldL h ((b.add (a.toNat * 25)).add 2) fun w x y => ldL h ((b.add (a.toNat * 25)).add 3) fun z A B => ldL h ((b.add (a.toNat * 25)).add 4) fun C D G => ldL h ((b.add (a.toNat * 25)).add 5) fun I J L => ldB h ((b.add (a.toNat * 25)).add 6) fun M => ldI h ((b.add (a.toNat * 25)).add 7) .i64 fun N => ldI h ((b.add (a.toNat * 25)).add 8) .i64 fun O => ldI h ((b.add (a.toNat * 25)).add 9) .i64 fun P => ldS h ((b.add (a.toNat * 25)).add 10) fun R => ldI h ((b.add (a.toNat * 25)).add 11) .i64 fun S => ldI h ((b.add (a.toNat * 25)).add 12) .i64 fun U => ldL h ((b.add (a.toNat * 25)).add 13) fun V W X => ldL h ((b.add (a.toNat * 25)).add 14) fun Y Z a0 => ldL h ((b.add (a.toNat * 25)).add 15) fun a1 a2 a3 => ldL h ((b.add (a.toNat * 25)).add 16) fun a4 a5 a6 => ldI h ((b.add (a.toNat * 25)).add 17) .i64 fun a7 => ldI h ((b.add (a.toNat * 25)).add 18) .i64 fun a8 => ldI h ((b.add (a.toNat * 25)).add 19) .i64 fun a9 => ldI h ((b.add (a.toNat * 25)).add 20) .i64 fun aa => ldL h ((b.add (a.toNat * 25)).add 21) fun ab ac ad => ldL h ((b.add (a.toNat * 25)).add 22) fun ae af ag => ldL h ((b.add (a.toNat * 25)).add 23) fun ah ai aj => ldL h ((b.add (a.toNat * 25)).add 24) fun ak al am => ldI h c .i64 fun an => ldB h (c.add 1) fun ao => ldI h (c.add 2) .u64 fun ap => ldI h (c.add 3) .u64 fun aq => ldB h (c.add 4) fun ar => ldI h (c.add 5) .u64 fun au => ldI h (c.add 6) .u64 fun av => ldI h (c.add 7) .i64 fun aw => ldI h (c.add 8) .i64 fun ax => aD Tryz.prog ma #[.agg #[.int .i64 t, .int .i64 u, .slice w x y, .slice z A B, .slice C D G, .slice I J L, .bool M, .int .i64 N, .int .i64 O, .int .i64 P, .string R, .int .i64 S, .int .i64 U, .slice V W X, .slice Y Z a0, .slice a1 a2 a3, .slice a4 a5 a6, .int .i64 a7, .int .i64 a8, .int .i64 a9, .int .i64 aa, .slice ab ac ad, .slice ae af ag, .slice ah ai aj, .slice ak al am], .agg #[.int .i64 an, .bool ao, .int .u64 ap, .int .u64 aq, .bool ar, .int .u64 au, .int .u64 av, .int .i64 aw, .int .i64 ax], .int .i64 n] h fun v h2 => ∃ j, v = .bool j ∧ if j = true then (alV h2 (.cells #[.int .i64 a] oF) fun ay h3 => cQ Tryz.prog .append #[bG, bG] bG #[false, false] #[.slice d f g, .slice (some ay) 1 1] h3 fun v h4 => ∃ k l m, v = .slice k l m ∧ Kn1 (k, l, m, wrap .i64 (a + 1)) h4) else (Kn1 (d, f, g, wrap .i64 (a + 1)) h2))) else (Q (.slice d f g) h)
def rE (a : Option Addr) (b : Int) (c : Bool) (d f : Int) (g : Bool) (i j k l m : Int) (Q : QT) (h : aB) : Prop :=
 alV h (.cells #[.int .i64 b, .bool c, .int .u64 d, .int .u64 f, .bool g, .int .u64 i, .int .u64 j, .int .i64 k, .int .i64 l] hU) fun n h1 => aH (fun (s : (Option Addr) × Nat × Nat × Int) h Kn => mj a m n Q s.1 s.2.1 s.2.2.1 s.2.2.2 h Kn) (none, 0, 0, 0) h1
set_option maxRecDepth 100000 in
theorem xC (f i j k l m n o p q g : _) {Q : QT} {h : aB} (hk : rE f i j k l m n o p q g Q h) : aD Tryz.prog mi #[.pointer f, .agg #[.int .i64 i, .bool j, .int .u64 k, .int .u64 l, .bool m, .int .u64 n, .int .u64 o, .int .i64 p, .int .i64 q], .int .i64 g] h Q :=
 aS follows Tryz.func24 (Tryz.call24 _) rfl rfl [] [(8, fun e h => dP (e 0) fun f => dI .i64 (e 2) fun g => dA (e 4) fun r => dL (e 7) fun a b c => dI .i64 (e 8) fun d => aH (fun (s : (Option Addr) × Nat × Nat × Int) h Kn => mj f g r Q s.1 s.2.1 s.2.2.1 s.2.2.2 h Kn) (a, b, c, d) h)]
 trivial
 ⟨⟨by kernel_rfl, fun e h he hk => by
 have F := Ag.nil (e := e)
 have ⟨f, F, hk⟩ := eP F hk
 have ⟨g, F, hk⟩ := eI F hk
 have ⟨r, F, hk⟩ := eA F hk
 have ⟨a, b, c, F, hk⟩ := eL F hk
 have ⟨d, F, hk⟩ := eI F hk
 exact bT (s0 := (a, b, c, d)) follows (fun _ h => by cases h) he F (fun s => [(8, .int .i64 s.2.2.2), (7, .slice s.1 s.2.1 s.2.2.1)]) (by kernel_rfl) (F.take 2) hk (fun Kn1 e h => dL (e 7) fun a b c => dI .i64 (e 8) fun d => Kn1 (a, b, c, d) h) (fun Kn1 e h hk => by
  have F := Ag.nil (e := e)
  have ⟨a, b, c, F, hk⟩ := eL F hk
  have ⟨d, F, hk⟩ := eI F hk
  exact ⟨(a, b, c, d), F, hk⟩)
  (fun Kn1 => []) (fun Kn1 => [])
  (fun Kn1 => trivial)
  (fun Kn1 => trivial) (fun e s h Kn1 => by as_aux_lemma => kernel_rfl)⟩, trivial⟩ (by as_aux_lemma => kernel_rfl) hk
def jQ (i : Option Addr) (a c : Addr) (Q : QT) (d : Option Addr) (f g : Nat) (b : Int) (h : aB) (Kn1 : (Option Addr) × Nat × Nat × Int → aB → Prop) : Prop :=
 nn i fun n => ldL h n fun G o I => if (decide (b < ((o : Nat) : Int))) = true then (ldI h a .i64 fun p => ldB h (a.add 1) fun q => ldI h (a.add 2) .u64 fun r => ldI h (a.add 3) .u64 fun s => ldB h (a.add 4) fun t => ldI h (a.add 5) .u64 fun u => ldI h (a.add 6) .u64 fun w => ldI h (a.add 7) .i64 fun x => ldI h (a.add 8) .i64 fun y => ldI h c .i64 fun z => ldI h (c.add 1) .i64 fun A => ldI h (c.add 2) .i64 fun B => ldS h (c.add 3) fun C => aD Tryz.prog pu #[.pointer i, .int .i64 b, .agg #[.int .i64 p, .bool q, .int .u64 r, .int .u64 s, .bool t, .int .u64 u, .int .u64 w, .int .i64 x, .int .i64 y], .agg #[.int .i64 z, .int .i64 A, .int .i64 B, .string C]] h fun v h3 => ∃ j, v = .bool j ∧ if j = true then (alV h3 (.cells #[.int .i64 b] oF) fun D h4 => cQ Tryz.prog .append #[bG, bG] bG #[false, false] #[.slice d f g, .slice (some D) 1 1] h4 fun v h5 => ∃ k l m, v = .slice k l m ∧ Kn1 (k, l, m, wrap .i64 (b + 1)) h5) else (Kn1 (d, f, g, wrap .i64 (b + 1)) h3)) else (Q (.slice d f g) h)
def oo (a : Option Addr) (b : Int) (c : Bool) (d f : Int) (g : Bool) (i j k l m n o : Int) (p : ByteArray) (Q : QT) (h : aB) : Prop :=
 alV h (.cells #[.int .i64 b, .bool c, .int .u64 d, .int .u64 f, .bool g, .int .u64 i, .int .u64 j, .int .i64 k, .int .i64 l] hU) fun q h1 => alV h1 (.cells #[.int .i64 m, .int .i64 n, .int .i64 o, .string p] od) fun r h2 => aH (fun (s : (Option Addr) × Nat × Nat × Int) h Kn => jQ a q r Q s.1 s.2.1 s.2.2.1 s.2.2.2 h Kn) (none, 0, 0, 0) h2
set_option maxRecDepth 100000 in
theorem uc (f g i j k l m n o p q r t u : _) {Q : QT} {h : aB} (hk : oo f g i j k l m n o p q r t u Q h) : aD Tryz.prog jH #[.pointer f, .agg #[.int .i64 g, .bool i, .int .u64 j, .int .u64 k, .bool l, .int .u64 m, .int .u64 n, .int .i64 o, .int .i64 p], .agg #[.int .i64 q, .int .i64 r, .int .i64 t, .string u]] h Q :=
 aS follows Tryz.func25 (Tryz.call25 _) rfl rfl [] [(8, fun e h => dP (e 0) fun f => dA (e 4) fun w => dA (e 5) fun x => dL (e 7) fun a b c => dI .i64 (e 8) fun d => aH (fun (s : (Option Addr) × Nat × Nat × Int) h Kn => jQ f w x Q s.1 s.2.1 s.2.2.1 s.2.2.2 h Kn) (a, b, c, d) h)]
 trivial
 ⟨⟨by kernel_rfl, fun e h he hk => by
 have F := Ag.nil (e := e)
 have ⟨f, F, hk⟩ := eP F hk
 have ⟨w, F, hk⟩ := eA F hk
 have ⟨x, F, hk⟩ := eA F hk
 have ⟨a, b, c, F, hk⟩ := eL F hk
 have ⟨d, F, hk⟩ := eI F hk
 exact bT (s0 := (a, b, c, d)) follows (fun _ h => by cases h) he F (fun s => [(8, .int .i64 s.2.2.2), (7, .slice s.1 s.2.1 s.2.2.1)]) (by kernel_rfl) (F.take 2) hk (fun Kn1 e h => dL (e 7) fun a b c => dI .i64 (e 8) fun d => Kn1 (a, b, c, d) h) (fun Kn1 e h hk => by
  have F := Ag.nil (e := e)
  have ⟨a, b, c, F, hk⟩ := eL F hk
  have ⟨d, F, hk⟩ := eI F hk
  exact ⟨(a, b, c, d), F, hk⟩)
  (fun Kn1 => []) (fun Kn1 => [])
  (fun Kn1 => trivial)
  (fun Kn1 => trivial) (fun e s h Kn1 => by as_aux_lemma => kernel_rfl)⟩, trivial⟩ (by as_aux_lemma => kernel_rfl) hk
def pm (d : Option Addr) (f k : Nat) (g : Int) (Q : QT) (b : ByteArray) (a : Int) (h : aB) (Kn1 : ByteArray × Int → aB → Prop) : Prop :=
 if (decide (a < g)) = true then (bO a f (nn d fun i => ldI h (i.add (a.toNat * 1)) .i64 fun j => aD Tryz.prog mS #[.int .i64 j, .string b] h fun v h1 => ∃ c, v = .string c ∧ Kn1 (c, wrap .i64 (a + 1)) h1)) else (Q (.string b) h)
def uZ (c : Option Addr) (a d : Nat) (f : ByteArray) (Q : QT) (h : aB) : Prop :=
 fM 1 c a d none (some (if (4 : Int) < ((a : Nat) : Int) then (4 : Int) else ((a : Nat) : Int))) none fun g b i => aH (fun (s : ByteArray × Int) h Kn => pm g b i ((b : Nat) : Int) Q s.1 s.2 h Kn) (f, 0) h
set_option maxRecDepth 100000 in
theorem Aq (c d f a : _) {Q : QT} {h : aB} (hk : uZ c d f a Q h) : aD Tryz.prog po #[.slice c d f, .string a] h Q :=
 aS follows Tryz.func27 (Tryz.call27 _) rfl rfl [] [(6, fun e h => dL (e 11) fun g i j => dI .i64 (e 12) fun k => dS (e 1) fun a => dI .i64 (e 13) fun b => aH (fun (s : ByteArray × Int) h Kn => pm g i j k Q s.1 s.2 h Kn) (a, b) h)]
 trivial
 ⟨⟨by kernel_rfl, fun e h he hk => by
 have F := Ag.nil (e := e)
 have ⟨g, i, j, F, hk⟩ := eL F hk
 have ⟨k, F, hk⟩ := eI F hk
 have ⟨a, F, hk⟩ := eS F hk
 have ⟨b, F, hk⟩ := eI F hk
 exact bT (s0 := (a, b)) follows (fun _ h => by cases h) he F (fun s => [(13, .int .i64 s.2), (1, .string s.1)]) (by kernel_rfl) (F.take 2) hk (fun Kn1 e h => dS (e 1) fun a => dI .i64 (e 13) fun b => Kn1 (a, b) h) (fun Kn1 e h hk => by
  have F := Ag.nil (e := e)
  have ⟨a, F, hk⟩ := eS F hk
  have ⟨b, F, hk⟩ := eI F hk
  exact ⟨(a, b), F, hk⟩)
  (fun Kn1 => []) (fun Kn1 => [])
  (fun Kn1 => trivial)
  (fun Kn1 => trivial) (fun e s h Kn1 => by as_aux_lemma => kernel_rfl)⟩, trivial⟩ (by as_aux_lemma => kernel_rfl) hk
def ri (a : Addr) (Q : QT) (h : aB) : Prop :=
 ldL h (a.add 14) fun j k l => aD Tryz.prog nX #[.slice j k l] h fun v h10 => ∃ b, v = .int .i64 b ∧ if (b != 0) = true then (Q (.int .i64 b) h10) else (ldL h10 (a.add 15) fun m n o => aD Tryz.prog rf #[.slice m n o] h10 fun v h11 => ∃ c, v = .bool c ∧ if (!c) = true then (Q (.int .i64 4) h11) else (ldI h11 a .i64 fun p => ldI h11 (a.add 1) .i64 fun q => ldL h11 (a.add 2) fun r s t => ldL h11 (a.add 3) fun u w x => ldL h11 (a.add 4) fun y z A => ldL h11 (a.add 5) fun B C D => ldB h11 (a.add 6) fun G => ldI h11 (a.add 7) .i64 fun I => ldI h11 (a.add 8) .i64 fun J => ldI h11 (a.add 9) .i64 fun L => ldS h11 (a.add 10) fun M => ldI h11 (a.add 11) .i64 fun N => ldI h11 (a.add 12) .i64 fun O => ldL h11 (a.add 13) fun P R S => ldL h11 (a.add 14) fun U V W => ldL h11 (a.add 15) fun X Y Z => ldL h11 (a.add 16) fun a0 a1 a2 => ldI h11 (a.add 17) .i64 fun a3 => ldI h11 (a.add 18) .i64 fun a4 => ldI h11 (a.add 19) .i64 fun a5 => ldI h11 (a.add 20) .i64 fun a6 => aD Tryz.prog pw #[.agg #[.int .i64 p, .int .i64 q, .slice r s t, .slice u w x, .slice y z A, .slice B C D, .bool G, .int .i64 I, .int .i64 J, .int .i64 L, .string M, .int .i64 N, .int .i64 O, .slice P R S, .slice U V W, .slice X Y Z, .slice a0 a1 a2, .int .i64 a3, .int .i64 a4, .int .i64 a5, .int .i64 a6]] h11 fun v h12 => ∃ d, v = .bool d ∧ if (!d) = true then (Q (.int .i64 4) h12) else (ldL h12 (a.add 2) fun a7 a8 a9 => aD Tryz.prog lk #[.slice a7 a8 a9] h12 fun v h13 => ∃ f, v = .bool f ∧ if (!f) = true then (Q (.int .i64 2) h13) else (ldL h13 (a.add 3) fun aa ab ac => aD Tryz.prog lk #[.slice aa ab ac] h13 fun v h14 => ∃ g, v = .bool g ∧ if (!g) = true then (Q (.int .i64 2) h14) else (ldL h14 (a.add 14) fun ad ae af => aD Tryz.prog sE #[.slice ad ae af] h14 fun v h15 => ∃ i, v = .bool i ∧ if (!i) = true then (Q (.int .i64 2) h15) else (ldL h15 (a.add 14) fun ai ag aj => ldL h15 (a.add 15) fun ak ah al => if ((wrap .i64 (((ag : Nat) : Int) + ((ah : Nat) : Int))) == 0) = true then (Q (.int .i64 2) h15) else (Q (.int .i64 0) h15)))))))
def ry (b : Addr) (Q : QT) (a : Int) (h : aB) (Kn1 : Int → aB → Prop) : Prop :=
 ldL h (b.add 13) fun n c o => if (decide (a < ((c : Nat) : Int))) = true then (ldL h (b.add 13) fun d f p => bO a f (nn d fun g => ldI h (g.add (a.toNat * 1)) .i64 fun i => if (decide (i < 1)) = true then (Q (.int .i64 4) h) else (ldL h (b.add 13) fun j k q => bO a k (nn j fun l => ldI h (l.add (a.toNat * 1)) .i64 fun m => if (decide (m > 6)) = true then (Q (.int .i64 4) h) else (Kn1 (wrap .i64 (a + 1)) h))))) else (ri b Q h)
def xp (l m : Int) (n : Option Addr) (o p : Nat) (q : Option Addr) (r t : Nat) (u : Option Addr) (w x : Nat) (y : Option Addr) (z A : Nat) (B : Bool) (C D G : Int) (I : ByteArray) (J L : Int) (M : Option Addr) (N O : Nat) (P : Option Addr) (R S : Nat) (U : Option Addr) (V W : Nat) (X : Option Addr) (Y Z : Nat) (a0 a1 a2 a3 : Int) (Q : QT) (h : aB) : Prop :=
 alV h (.cells #[.int .i64 l, .int .i64 m, .slice n o p, .slice q r t, .slice u w x, .slice y z A, .bool B, .int .i64 C, .int .i64 D, .int .i64 G, .string I, .int .i64 J, .int .i64 L, .slice M N O, .slice P R S, .slice U V W, .slice X Y Z, .int .i64 a0, .int .i64 a1, .int .i64 a2, .int .i64 a3] cK) fun a h1 => ldI h1 a .i64 fun a4 => ldI h1 (a.add 1) .i64 fun a5 => ldL h1 (a.add 2) fun a6 a7 a8 => ldL h1 (a.add 3) fun a9 aa ab => ldL h1 (a.add 4) fun ac ad ae => ldL h1 (a.add 5) fun af ag ah => ldB h1 (a.add 6) fun ai => ldI h1 (a.add 7) .i64 fun aj => ldI h1 (a.add 8) .i64 fun ak => ldI h1 (a.add 9) .i64 fun al => ldS h1 (a.add 10) fun am => ldI h1 (a.add 11) .i64 fun an => ldI h1 (a.add 12) .i64 fun ao => ldL h1 (a.add 13) fun ap aq ar => ldL h1 (a.add 14) fun au av aw => ldL h1 (a.add 15) fun ax ay az => ldL h1 (a.add 16) fun b0 b1 b2 => ldI h1 (a.add 17) .i64 fun b3 => ldI h1 (a.add 18) .i64 fun b4 => ldI h1 (a.add 19) .i64 fun b5 => ldI h1 (a.add 20) .i64 fun b6 => aD Tryz.prog rA #[.agg #[.int .i64 a4, .int .i64 a5, .slice a6 a7 a8, .slice a9 aa ab, .slice ac ad ae, .slice af ag ah, .bool ai, .int .i64 aj, .int .i64 ak, .int .i64 al, .string am, .int .i64 an, .int .i64 ao, .slice ap aq ar, .slice au av aw, .slice ax ay az, .slice b0 b1 b2, .int .i64 b3, .int .i64 b4, .int .i64 b5, .int .i64 b6]] h1 fun v h2 => ∃ b, v = .bool b ∧ if (!b) = true then (Q (.int .i64 4) h2) else (ldI h2 a .i64 fun b7 => ldI h2 (a.add 1) .i64 fun b8 => ldL h2 (a.add 2) fun b9 ba bb => ldL h2 (a.add 3) fun bc bd bf => ldL h2 (a.add 4) fun bg bh bi => ldL h2 (a.add 5) fun bj bk bl => ldB h2 (a.add 6) fun bm => ldI h2 (a.add 7) .i64 fun bn => ldI h2 (a.add 8) .i64 fun bo => ldI h2 (a.add 9) .i64 fun bp => ldS h2 (a.add 10) fun bq => ldI h2 (a.add 11) .i64 fun br => ldI h2 (a.add 12) .i64 fun bt => ldL h2 (a.add 13) fun bu bv bw => ldL h2 (a.add 14) fun bx bz c0 => ldL h2 (a.add 15) fun c1 c2 c3 => ldL h2 (a.add 16) fun c4 c5 c6 => ldI h2 (a.add 17) .i64 fun c7 => ldI h2 (a.add 18) .i64 fun c8 => ldI h2 (a.add 19) .i64 fun c9 => ldI h2 (a.add 20) .i64 fun ca => aD Tryz.prog rk #[.agg #[.int .i64 b7, .int .i64 b8, .slice b9 ba bb, .slice bc bd bf, .slice bg bh bi, .slice bj bk bl, .bool bm, .int .i64 bn, .int .i64 bo, .int .i64 bp, .string bq, .int .i64 br, .int .i64 bt, .slice bu bv bw, .slice bx bz c0, .slice c1 c2 c3, .slice c4 c5 c6, .int .i64 c7, .int .i64 c8, .int .i64 c9, .int .i64 ca]] h2 fun v h3 => ∃ c, v = .bool c ∧ if (!c) = true then (Q (.int .i64 13) h3) else (ldI h3 a .i64 fun cb => ldI h3 (a.add 1) .i64 fun cc => ldL h3 (a.add 2) fun cd ce cf => ldL h3 (a.add 3) fun cg ch ci => ldL h3 (a.add 4) fun cj ck cl => ldL h3 (a.add 5) fun cm cn co => ldB h3 (a.add 6) fun cp => ldI h3 (a.add 7) .i64 fun cq => ldI h3 (a.add 8) .i64 fun cr => ldI h3 (a.add 9) .i64 fun cs => ldS h3 (a.add 10) fun ct => ldI h3 (a.add 11) .i64 fun cu => ldI h3 (a.add 12) .i64 fun cv => ldL h3 (a.add 13) fun cw cx cy => ldL h3 (a.add 14) fun cz d0 d1 => ldL h3 (a.add 15) fun d2 d3 d4 => ldL h3 (a.add 16) fun d5 d6 d7 => ldI h3 (a.add 17) .i64 fun d8 => ldI h3 (a.add 18) .i64 fun d9 => ldI h3 (a.add 19) .i64 fun da => ldI h3 (a.add 20) .i64 fun db => aD Tryz.prog rb #[.agg #[.int .i64 cb, .int .i64 cc, .slice cd ce cf, .slice cg ch ci, .slice cj ck cl, .slice cm cn co, .bool cp, .int .i64 cq, .int .i64 cr, .int .i64 cs, .string ct, .int .i64 cu, .int .i64 cv, .slice cw cx cy, .slice cz d0 d1, .slice d2 d3 d4, .slice d5 d6 d7, .int .i64 d8, .int .i64 d9, .int .i64 da, .int .i64 db]] h3 fun v h4 => ∃ d, v = .bool d ∧ if (!d) = true then (Q (.int .i64 3) h4) else (ldL h4 (a.add 2) fun dc dd de => aD Tryz.prog kv #[.slice dc dd de] h4 fun v h5 => ∃ f, v = .bool f ∧ if (!f) = true then (Q (.int .i64 5) h5) else (ldL h5 (a.add 3) fun df dg dh => aD Tryz.prog kv #[.slice df dg dh] h5 fun v h6 => ∃ g, v = .bool g ∧ if (!g) = true then (Q (.int .i64 5) h6) else (ldL h6 (a.add 4) fun di dj dk => aD Tryz.prog j7 #[.slice di dj dk] h6 fun v h7 => ∃ i, v = .bool i ∧ if (!i) = true then (Q (.int .i64 5) h7) else (ldL h7 (a.add 5) fun dl dm dn => aD Tryz.prog j7 #[.slice dl dm dn] h7 fun v h8 => ∃ j, v = .bool j ∧ if (!j) = true then (Q (.int .i64 5) h8) else (ldL h8 (a.add 16) fun dp dq dr => aD Tryz.prog mK #[.slice dp dq dr] h8 fun v h9 => ∃ k, v = .bool k ∧ if (!k) = true then (Q (.int .i64 5) h9) else (aH (fun (s : Int) h Kn => ry a Q s h Kn) 0 h9))))))))
set_option maxRecDepth 100000 in
theorem Cr (c d f g i j k l m n o p q r t u w x y z A B C D G I J L M N O P R S U V W : _) {Q : QT} {h : aB} (hk : xp c d f g i j k l m n o p q r t u w x y z A B C D G I J L M N O P R S U V W Q h) : aD Tryz.prog rG #[.agg #[.int .i64 c, .int .i64 d, .slice f g i, .slice j k l, .slice m n o, .slice p q r, .bool t, .int .i64 u, .int .i64 w, .int .i64 x, .string y, .int .i64 z, .int .i64 A, .slice B C D, .slice G I J, .slice L M N, .slice O P R, .int .i64 S, .int .i64 U, .int .i64 V, .int .i64 W]] h Q :=
 aS follows Tryz.func28 (Tryz.call28 _) rfl rfl [(30, fun e h => dA (e 1) fun b => ri b Q h)] [(22, fun e h => dA (e 1) fun b => dI .i64 (e 3) fun a => aH (fun (s : Int) h Kn => ry b Q s h Kn) a h)]
 ⟨fun e h _ hk => by
 have F := Ag.nil (e := e)
 have ⟨b, F, hk⟩ := eA F hk
 exact fX F (by as_aux_lemma => kernel_rfl) hk, trivial⟩
 ⟨⟨by kernel_rfl, fun e h he hk => by
 have F := Ag.nil (e := e)
 have ⟨b, F, hk⟩ := eA F hk
 have ⟨a, F, hk⟩ := eI F hk
 exact bT (s0 := a) follows (fun _ h => by cases h) he F (fun s => [(3, .int .i64 s)]) (by kernel_rfl) (F.take 1) hk (fun Kn1 e h => dI .i64 (e 3) fun a => Kn1 a h) (fun Kn1 e h hk => by
  have F := Ag.nil (e := e)
  have ⟨a, F, hk⟩ := eI F hk
  exact ⟨a, F, hk⟩)
  (fun Kn1 => []) (fun Kn1 => [])
  (fun Kn1 => trivial)
  (fun Kn1 => trivial) (fun e s h Kn1 => by as_aux_lemma => kernel_rfl)⟩, trivial⟩ (by as_aux_lemma => kernel_rfl) hk
def Ab (a7 : Int) (a8 : ByteArray) (Q : QT) (h : aB) : Prop :=
 alV h (.cells #[.int .i64 0, .int .i64 0, .slice none 0 0, .slice none 0 0, .slice none 0 0, .slice none 0 0, .bool false, .int .i64 0, .int .i64 0, .int .i64 0, .string (⟨#[]⟩ : ByteArray), .int .i64 0, .int .i64 0, .slice none 0 0, .slice none 0 0, .slice none 0 0, .slice none 0 0, .int .i64 0, .int .i64 0, .int .i64 0, .int .i64 0, .slice none 0 0, .slice none 0 0, .slice none 0 0, .slice none 0 0] cA) fun a h1 => alV h1 (.cells #[.string a8, .bool false, .bool false, .bool false, .int .i64 0, .int .i64 0, .bool false] ei) fun a9 h2 => aD Tryz.prog sK #[.agg #[.int .i64 1, .int .i64 6, .slice none 0 0, .slice none 0 0, .slice none 0 0, .slice none 0 0, .bool false, .int .i64 a7, .int .i64 1, .int .i64 2, .string (⟨#[]⟩ : ByteArray), .int .i64 0, .int .i64 4, .slice none 0 0, .slice (some a9) 1 1, .slice none 0 0, .slice none 0 0, .int .i64 0, .int .i64 0, .int .i64 0, .int .i64 0]] h2 fun v h3 => ∃ b c d f g i j k l m n o p q r s t u w x y z A B C D G I J L M N O P R S U V W X Y Z a0 a1 a2 a3 a4 a5 a6, v = .agg #[.int .i64 b, .int .i64 c, .slice d f g, .slice i j k, .slice l m n, .slice o p q, .bool r, .int .i64 s, .int .i64 t, .int .i64 u, .string w, .int .i64 x, .int .i64 y, .slice z A B, .slice C D G, .slice I J L, .slice M N O, .int .i64 P, .int .i64 R, .int .i64 S, .int .i64 U, .slice V W X, .slice Y Z a0, .slice a1 a2 a3, .slice a4 a5 a6] ∧ stN h3 a [.int .i64 b, .int .i64 c, .slice d f g, .slice i j k, .slice l m n, .slice o p q, .bool r, .int .i64 s, .int .i64 t, .int .i64 u, .string w, .int .i64 x, .int .i64 y, .slice z A B, .slice C D G, .slice I J L, .slice M N O, .int .i64 P, .int .i64 R, .int .i64 S, .int .i64 U, .slice V W X, .slice Y Z a0, .slice a1 a2 a3, .slice a4 a5 a6] 0 fun h4 => ldI h4 a .i64 fun aa => ldI h4 (a.add 1) .i64 fun ab => ldL h4 (a.add 2) fun ac ad ae => ldL h4 (a.add 3) fun af ag ah => ldL h4 (a.add 4) fun ai aj ak => ldL h4 (a.add 5) fun al am an => ldB h4 (a.add 6) fun ao => ldI h4 (a.add 7) .i64 fun ap => ldI h4 (a.add 8) .i64 fun aq => ldI h4 (a.add 9) .i64 fun ar => ldS h4 (a.add 10) fun au => ldI h4 (a.add 11) .i64 fun av => ldI h4 (a.add 12) .i64 fun aw => ldL h4 (a.add 13) fun ax ay az => ldL h4 (a.add 14) fun b0 b1 b2 => ldL h4 (a.add 15) fun b3 b4 b5 => ldL h4 (a.add 16) fun b6 b7 b8 => ldI h4 (a.add 17) .i64 fun b9 => ldI h4 (a.add 18) .i64 fun ba => ldI h4 (a.add 19) .i64 fun bb => ldI h4 (a.add 20) .i64 fun bc => ldL h4 (a.add 21) fun bd bf bg => ldL h4 (a.add 22) fun bh bi bj => ldL h4 (a.add 23) fun bk bl bm => ldL h4 (a.add 24) fun bn bo bp => Q (.agg #[.int .i64 aa, .int .i64 ab, .slice ac ad ae, .slice af ag ah, .slice ai aj ak, .slice al am an, .bool ao, .int .i64 ap, .int .i64 aq, .int .i64 ar, .string au, .int .i64 av, .int .i64 aw, .slice ax ay az, .slice b0 b1 b2, .slice b3 b4 b5, .slice b6 b7 b8, .int .i64 b9, .int .i64 ba, .int .i64 bb, .int .i64 bc, .slice bd bf bg, .slice bh bi bj, .slice bk bl bm, .slice bn bo bp]) h4
set_option maxRecDepth 100000 in
theorem EW (a b : _) {Q : QT} {h : aB} (hk : Ab a b Q h) : aD Tryz.prog n9 #[.int .i64 a, .string b] h Q :=
 aS follows Tryz.func29 (Tryz.call29 _) rfl rfl [] []
 trivial
 trivial (by as_aux_lemma => kernel_rfl) hk
def ti (ad ae : Int) (af : Option Addr) (ag ah : Nat) (ai : Option Addr) (aj ak : Nat) (al : Option Addr) (am an : Nat) (ao : Option Addr) (ap aq : Nat) (ar : Bool) (au av aw : Int) (ax : ByteArray) (ay az : Int) (b0 : Option Addr) (b1 b2 : Nat) (b3 : Option Addr) (b4 b5 : Nat) (b6 : Option Addr) (b7 b8 : Nat) (b9 : Option Addr) (ba bb : Nat) (bc bd bf bg : Int) (bh : Option Addr) (bi bj : Nat) (bk : Option Addr) (bl bm : Nat) (bn : Option Addr) (bo bp : Nat) (bq : Option Addr) (br bt : Nat) (Q : QT) (h : aB) : Prop :=
 alV h (.cells #[.int .i64 ad, .int .i64 ae, .slice af ag ah, .slice ai aj ak, .slice al am an, .slice ao ap aq, .bool ar, .int .i64 au, .int .i64 av, .int .i64 aw, .string ax, .int .i64 ay, .int .i64 az, .slice b0 b1 b2, .slice b3 b4 b5, .slice b6 b7 b8, .slice b9 ba bb, .int .i64 bc, .int .i64 bd, .int .i64 bf, .int .i64 bg, .slice bh bi bj, .slice bk bl bm, .slice bn bo bp, .slice bq br bt] cA) fun a h1 => alV h1 (.cells #[.int .i64 0, .int .i64 0, .slice none 0 0, .slice none 0 0, .slice none 0 0, .slice none 0 0, .bool false, .int .i64 0, .int .i64 0, .int .i64 0, .string (⟨#[]⟩ : ByteArray), .int .i64 0, .int .i64 0, .slice none 0 0, .slice none 0 0, .slice none 0 0, .slice none 0 0, .int .i64 0, .int .i64 0, .int .i64 0, .int .i64 0, .slice none 0 0, .slice none 0 0, .slice none 0 0, .slice none 0 0] cA) fun b h2 => ldL h2 (a.add 2) fun bu bv bw => ldL h2 (a.add 3) fun c d f => aD Tryz.prog cC #[.slice bu bv bw] h2 fun v h3 => ∃ g i j, v = .slice g i j ∧ (ldL h3 (a.add 3) fun bx bz c0 => (.slice bx bz c0 : Value) = .slice c d f) ∧ aD Tryz.prog cC #[.slice c d f] h3 fun v h4 => ∃ k l m, v = .slice k l m ∧ st1 h4 (a.add 2) (.slice g i j) fun h5 => st1 h5 (a.add 3) (.slice k l m) fun h6 => ldL h6 (a.add 4) fun c1 c2 c3 => ldL h6 (a.add 5) fun n o p => aD Tryz.prog cB #[.slice c1 c2 c3] h6 fun v h7 => ∃ q r s, v = .slice q r s ∧ (ldL h7 (a.add 5) fun c4 c5 c6 => (.slice c4 c5 c6 : Value) = .slice n o p) ∧ aD Tryz.prog cB #[.slice n o p] h7 fun v h8 => ∃ t u w, v = .slice t u w ∧ st1 h8 (a.add 4) (.slice q r s) fun h9 => st1 h9 (a.add 5) (.slice t u w) fun h10 => ldL h10 (a.add 13) fun c7 c8 c9 => ldL h10 (a.add 14) fun x y z => aD Tryz.prog cX #[.slice c7 c8 c9] h10 fun v h11 => ∃ A B C, v = .slice A B C ∧ (ldL h11 (a.add 14) fun ca cb cc => (.slice ca cb cc : Value) = .slice x y z) ∧ aD Tryz.prog cW #[.slice x y z] h11 fun v h12 => ∃ D G I, v = .slice D G I ∧ st1 h12 (a.add 13) (.slice A B C) fun h13 => st1 h13 (a.add 14) (.slice D G I) fun h14 => ldL h14 (a.add 15) fun cd ce cf => ldL h14 (a.add 16) fun J L M => aD Tryz.prog eN #[.slice cd ce cf] h14 fun v h15 => ∃ N O P, v = .slice N O P ∧ (ldL h15 (a.add 16) fun cg ch ci => (.slice cg ch ci : Value) = .slice J L M) ∧ aD Tryz.prog dQ #[.slice J L M] h15 fun v h16 => ∃ R S U, v = .slice R S U ∧ st1 h16 (a.add 15) (.slice N O P) fun h17 => st1 h17 (a.add 16) (.slice R S U) fun h18 => ldL h18 (a.add 21) fun cj ck cl => ldL h18 (a.add 22) fun V W X => aD Tryz.prog cP #[.slice cj ck cl] h18 fun v h19 => ∃ Y Z a0, v = .slice Y Z a0 ∧ (ldL h19 (a.add 22) fun cm cn co => (.slice cm cn co : Value) = .slice V W X) ∧ aD Tryz.prog cP #[.slice V W X] h19 fun v h20 => ∃ a1 a2 a3, v = .slice a1 a2 a3 ∧ st1 h20 (a.add 21) (.slice Y Z a0) fun h21 => st1 h21 (a.add 22) (.slice a1 a2 a3) fun h22 => ldL h22 (a.add 23) fun cp cq cr => ldL h22 (a.add 24) fun a4 a5 a6 => aD Tryz.prog cS #[.slice cp cq cr] h22 fun v h23 => ∃ a7 a8 a9, v = .slice a7 a8 a9 ∧ (ldL h23 (a.add 24) fun cs ct cu => (.slice cs ct cu : Value) = .slice a4 a5 a6) ∧ aD Tryz.prog cS #[.slice a4 a5 a6] h23 fun v h24 => ∃ aa ab ac, v = .slice aa ab ac ∧ st1 h24 (a.add 23) (.slice a7 a8 a9) fun h25 => st1 h25 (a.add 24) (.slice aa ab ac) fun h26 => ldI h26 a .i64 fun cv => ldI h26 (a.add 1) .i64 fun cw => ldL h26 (a.add 2) fun cx cy cz => ldL h26 (a.add 3) fun d0 d1 d2 => ldL h26 (a.add 4) fun d3 d4 d5 => ldL h26 (a.add 5) fun d6 d7 d8 => ldB h26 (a.add 6) fun d9 => ldI h26 (a.add 7) .i64 fun da => ldI h26 (a.add 8) .i64 fun db => ldI h26 (a.add 9) .i64 fun dc => ldS h26 (a.add 10) fun dd => ldI h26 (a.add 11) .i64 fun de => ldI h26 (a.add 12) .i64 fun df => ldL h26 (a.add 13) fun dg dh di => ldL h26 (a.add 14) fun dj dk dl => ldL h26 (a.add 15) fun dm dn dp => ldL h26 (a.add 16) fun dq dr dt => ldI h26 (a.add 17) .i64 fun du => ldI h26 (a.add 18) .i64 fun dv => ldI h26 (a.add 19) .i64 fun dw => ldI h26 (a.add 20) .i64 fun dx => ldL h26 (a.add 21) fun dy dz f0 => ldL h26 (a.add 22) fun f1 f2 f3 => ldL h26 (a.add 23) fun f4 f5 f6 => ldL h26 (a.add 24) fun f7 f8 f9 => stN h26 b [.int .i64 cv, .int .i64 cw, .slice cx cy cz, .slice d0 d1 d2, .slice d3 d4 d5, .slice d6 d7 d8, .bool d9, .int .i64 da, .int .i64 db, .int .i64 dc, .string dd, .int .i64 de, .int .i64 df, .slice dg dh di, .slice dj dk dl, .slice dm dn dp, .slice dq dr dt, .int .i64 du, .int .i64 dv, .int .i64 dw, .int .i64 dx, .slice dy dz f0, .slice f1 f2 f3, .slice f4 f5 f6, .slice f7 f8 f9] 0 fun h27 => ldI h27 b .i64 fun fa => ldI h27 (b.add 1) .i64 fun fb => ldL h27 (b.add 2) fun fc fd fe => ldL h27 (b.add 3) fun ff fg fh => ldL h27 (b.add 4) fun fi fj fk => ldL h27 (b.add 5) fun fm fn fo => ldB h27 (b.add 6) fun fp => ldI h27 (b.add 7) .i64 fun fq => ldI h27 (b.add 8) .i64 fun fr => ldI h27 (b.add 9) .i64 fun fs => ldS h27 (b.add 10) fun ft => ldI h27 (b.add 11) .i64 fun fu => ldI h27 (b.add 12) .i64 fun fv => ldL h27 (b.add 13) fun fw fx fy => ldL h27 (b.add 14) fun fz g0 g1 => ldL h27 (b.add 15) fun g2 g3 g4 => ldL h27 (b.add 16) fun g5 g6 g7 => ldI h27 (b.add 17) .i64 fun g8 => ldI h27 (b.add 18) .i64 fun g9 => ldI h27 (b.add 19) .i64 fun ga => ldI h27 (b.add 20) .i64 fun gb => ldL h27 (b.add 21) fun gc gd gf => ldL h27 (b.add 22) fun gg gh gi => ldL h27 (b.add 23) fun gj gk gl => ldL h27 (b.add 24) fun gm gn go => Q (.agg #[.int .i64 fa, .int .i64 fb, .slice fc fd fe, .slice ff fg fh, .slice fi fj fk, .slice fm fn fo, .bool fp, .int .i64 fq, .int .i64 fr, .int .i64 fs, .string ft, .int .i64 fu, .int .i64 fv, .slice fw fx fy, .slice fz g0 g1, .slice g2 g3 g4, .slice g5 g6 g7, .int .i64 g8, .int .i64 g9, .int .i64 ga, .int .i64 gb, .slice gc gd gf, .slice gg gh gi, .slice gj gk gl, .slice gm gn go]) h27
set_option maxRecDepth 100000 in
theorem zz (a b c d f g i j k l m n o p q r s t u w x y z A B C D G I J L M N O P R S U V W X Y Z a0 a1 a2 a3 a4 a5 : _) {Q : QT} {h : aB} (hk : ti a b c d f g i j k l m n o p q r s t u w x y z A B C D G I J L M N O P R S U V W X Y Z a0 a1 a2 a3 a4 a5 Q h) : aD Tryz.prog nh #[.agg #[.int .i64 a, .int .i64 b, .slice c d f, .slice g i j, .slice k l m, .slice n o p, .bool q, .int .i64 r, .int .i64 s, .int .i64 t, .string u, .int .i64 w, .int .i64 x, .slice y z A, .slice B C D, .slice G I J, .slice L M N, .int .i64 O, .int .i64 P, .int .i64 R, .int .i64 S, .slice U V W, .slice X Y Z, .slice a0 a1 a2, .slice a3 a4 a5]] h Q :=
 aS follows Tryz.func30 (Tryz.call30 _) rfl rfl [] []
 trivial
 trivial (by as_aux_lemma => kernel_rfl) hk
def fO (t : Option Addr) (u w : Nat) (x : Int) (a : Addr) (b : Int) (M : Option Addr) (N O : Nat) (P y : Int) (Q : QT) (Kn1 : (Option Addr) × Nat × Nat × Int → aB → Prop) (h : aB) : Prop :=
 ldL h (a.add 3) fun c d j => ldL h (a.add 3) fun k l z => bO b l (nn k fun m => ldL h (m.add (b.toNat * 1)) fun n o p => alV h (.cells #[.int .i64 x] oF) fun A h20 => (ldL h20 (a.add 3) fun f g i => (.slice f g i : Value) = .slice c d j) ∧ (ldL h20 (a.add 3) fun B C D => (.slice B C D : Value) = .slice k l z) ∧ (ldL h20 (m.add (b.toNat * 1)) fun G I J => (.slice G I J : Value) = .slice n o p) ∧ cQ Tryz.prog .append #[bG, bG] bG #[false, false] #[.slice n o p, .slice (some A) 1 1] h20 fun v h21 => ∃ q r s, v = .slice q r s ∧ (ldL h21 (a.add 3) fun f g i => (.slice f g i : Value) = .slice c d j) ∧ bO b d (nn c fun L => st1 h21 (L.add (b.toNat * 1)) (.slice q r s) fun h22 => Kn1 (t, u, w, wrap .i64 (y + 1)) h22))
def fP (d : Option Addr) (f j : Nat) (k : Int) (a : Addr) (b : Int) (m : Option Addr) (n o : Nat) (p l : Int) (Q : QT) (Kn1 : (Option Addr) × Nat × Nat × Int → aB → Prop) (h : aB) : Prop :=
 bO b f (nn d fun c => ldI h a .i64 fun J => ldI h (a.add 1) .i64 fun L => ldL h (a.add 2) fun M N O => ldL h (a.add 3) fun P R S => ldL h (a.add 4) fun U V W => ldL h (a.add 5) fun X Y Z => ldB h (a.add 6) fun a0 => ldI h (a.add 7) .i64 fun a1 => ldI h (a.add 8) .i64 fun a2 => ldI h (a.add 9) .i64 fun a3 => ldS h (a.add 10) fun a4 => ldI h (a.add 11) .i64 fun a5 => ldI h (a.add 12) .i64 fun a6 => ldL h (a.add 13) fun a7 a8 a9 => ldL h (a.add 14) fun aa ab ac => ldL h (a.add 15) fun ad ae af => ldL h (a.add 16) fun ag ah ai => ldI h (a.add 17) .i64 fun aj => ldI h (a.add 18) .i64 fun ak => ldI h (a.add 19) .i64 fun al => ldI h (a.add 20) .i64 fun am => aD Tryz.prog kb #[.agg #[.int .i64 J, .int .i64 L, .slice M N O, .slice P R S, .slice U V W, .slice X Y Z, .bool a0, .int .i64 a1, .int .i64 a2, .int .i64 a3, .string a4, .int .i64 a5, .int .i64 a6, .slice a7 a8 a9, .slice aa ab ac, .slice ad ae af, .slice ag ah ai, .int .i64 aj, .int .i64 ak, .int .i64 al, .int .i64 am]] h fun v h7 => ∃ q r s, v = .tuple #[.agg #[.string q, .bool r], .bool s] ∧ alV h7 (.cells #[.string (⟨#[]⟩ : ByteArray), .bool false] bE) fun g h8 => stN h8 g [.string q, .bool r] 0 fun h9 => if (!s) = true then (ldL h9 ((c.add (b.toNat * 5)).add 4) fun an ao ap => alV h9 (.cells #[.int .i64 k] oF) fun aq h10 => cQ Tryz.prog .append #[bG, bG] bG #[false, false] #[.slice an ao ap, .slice (some aq) 1 1] h10 fun v h11 => ∃ t u w, v = .slice t u w ∧ st1 h11 ((c.add (b.toNat * 5)).add 4) (.slice t u w) fun h12 => Kn1 (d, f, j, wrap .i64 (l + 1)) h12) else (ldL h9 ((c.add (b.toNat * 5)).add 2) fun ar au av => aD Tryz.prog fC #[.slice ar au av, .func (.func 79) #[] #[.pointer (some g)]] h9 fun v h13 => ∃ i, v = .int .i64 i ∧ ldL h13 ((c.add (b.toNat * 5)).add 2) fun b7 aw b8 => if (i == ((aw : Nat) : Int)) = true then (ldL h13 ((c.add (b.toNat * 5)).add 2) fun x y z => ldS h13 g fun ax => ldB h13 (g.add 1) fun ay => alV h13 (.cells #[.string ax, .bool ay] bE) fun az h14 => (ldL h14 ((c.add (b.toNat * 5)).add 2) fun b0 b1 b2 => (.slice b0 b1 b2 : Value) = .slice x y z) ∧ cQ Tryz.prog .append #[eK, eK] eK #[false, false] #[.slice x y z, .slice (some az) 1 1] h14 fun v h15 => ∃ A B C, v = .slice A B C ∧ st1 h15 ((c.add (b.toNat * 5)).add 2) (.slice A B C) fun h16 => ldL h16 ((c.add (b.toNat * 5)).add 3) fun b3 b4 b5 => alV h16 (.cells #[.slice none 0 0] bG) fun b6 h17 => cQ Tryz.prog .append #[r4, r4] r4 #[false, false] #[.slice b3 b4 b5, .slice (some b6) 1 1] h17 fun v h18 => ∃ D G I, v = .slice D G I ∧ st1 h18 ((c.add (b.toNat * 5)).add 3) (.slice D G I) fun h19 => fO d f j k (c.add (b.toNat * 5)) i m n o p l Q Kn1 h19) else (fO d f j k (c.add (b.toNat * 5)) i m n o p l Q Kn1 h13)))
def kT (j : Option Addr) (k m : Nat) (l : Int) (Q : QT) (f : Option Addr) (d g : Nat) (a : Int) (h : aB) (Kn1 : (Option Addr) × Nat × Nat × Int → aB → Prop) : Prop :=
 if (decide (a < l)) = true then (bO a k (nn j fun b => ldI h (b.add (a.toNat * 21)) .i64 fun u => ldI h ((b.add (a.toNat * 21)).add 1) .i64 fun w => ldL h ((b.add (a.toNat * 21)).add 2) fun x y z => ldL h ((b.add (a.toNat * 21)).add 3) fun A B C => ldL h ((b.add (a.toNat * 21)).add 4) fun D G I => ldL h ((b.add (a.toNat * 21)).add 5) fun J L M => ldB h ((b.add (a.toNat * 21)).add 6) fun N => ldI h ((b.add (a.toNat * 21)).add 7) .i64 fun O => ldI h ((b.add (a.toNat * 21)).add 8) .i64 fun P => ldI h ((b.add (a.toNat * 21)).add 9) .i64 fun R => ldS h ((b.add (a.toNat * 21)).add 10) fun S => ldI h ((b.add (a.toNat * 21)).add 11) .i64 fun U => ldI h ((b.add (a.toNat * 21)).add 12) .i64 fun V => ldL h ((b.add (a.toNat * 21)).add 13) fun W X Y => ldL h ((b.add (a.toNat * 21)).add 14) fun Z a0 a1 => ldL h ((b.add (a.toNat * 21)).add 15) fun a2 a3 a4 => ldL h ((b.add (a.toNat * 21)).add 16) fun a5 a6 a7 => ldI h ((b.add (a.toNat * 21)).add 17) .i64 fun a8 => ldI h ((b.add (a.toNat * 21)).add 18) .i64 fun a9 => ldI h ((b.add (a.toNat * 21)).add 19) .i64 fun aa => ldI h ((b.add (a.toNat * 21)).add 20) .i64 fun ab => alV h (.cells #[.int .i64 0, .int .i64 0, .slice none 0 0, .slice none 0 0, .slice none 0 0, .slice none 0 0, .bool false, .int .i64 0, .int .i64 0, .int .i64 0, .string (⟨#[]⟩ : ByteArray), .int .i64 0, .int .i64 0, .slice none 0 0, .slice none 0 0, .slice none 0 0, .slice none 0 0, .int .i64 0, .int .i64 0, .int .i64 0, .int .i64 0] cK) fun c h1 => stN h1 c [.int .i64 u, .int .i64 w, .slice x y z, .slice A B C, .slice D G I, .slice J L M, .bool N, .int .i64 O, .int .i64 P, .int .i64 R, .string S, .int .i64 U, .int .i64 V, .slice W X Y, .slice Z a0 a1, .slice a2 a3 a4, .slice a5 a6 a7, .int .i64 a8, .int .i64 a9, .int .i64 aa, .int .i64 ab] 0 fun h2 => aD Tryz.prog gB #[.slice f d g, .func (.func 75) #[] #[.pointer (some c)]] h2 fun v h3 => ∃ i, v = .int .i64 i ∧ if (i == ((d : Nat) : Int)) = true then (ldI h3 (c.add 12) .i64 fun n => ldL h3 (c.add 13) fun ac ad ae => aD Tryz.prog cX #[.slice ac ad ae] h3 fun v h4 => ∃ o p q, v = .slice o p q ∧ (ldI h4 (c.add 12) .i64 fun af => (.int .i64 af : Value) = .int .i64 n) ∧ alV h4 (.cells #[.int .i64 n, .slice o p q, .slice none 0 0, .slice none 0 0, .slice none 0 0] m8) fun ag h5 => cQ Tryz.prog .append #[nU, nU] nU #[false, false] #[.slice f d g, .slice (some ag) 1 1] h5 fun v h6 => ∃ r s t, v = .slice r s t ∧ fP r s t a c i j k m l a Q Kn1 h6) else (fP f d g a c i j k m l a Q Kn1 h3))) else (Q (.slice f d g) h)
def pU (b : Option Addr) (a c : Nat) (Q : QT) (h : aB) : Prop :=
 aH (fun (s : (Option Addr) × Nat × Nat × Int) h Kn => kT b a c ((a : Nat) : Int) Q s.1 s.2.1 s.2.2.1 s.2.2.2 h Kn) (none, 0, 0, 0) h
set_option maxRecDepth 100000 in
theorem vH (l m n : _) {Q : QT} {h : aB} (hk : pU l m n Q h) : aD Tryz.prog iR #[.slice l m n] h Q :=
 aS follows Tryz.func31 (Tryz.call31 _) rfl rfl [] [(8, fun e h => dL (e 11) fun f g i => dI .i64 (e 12) fun j => dL (e 3) fun a b c => dI .i64 (e 13) fun d => aH (fun (s : (Option Addr) × Nat × Nat × Int) h Kn => kT f g i j Q s.1 s.2.1 s.2.2.1 s.2.2.2 h Kn) (a, b, c, d) h)]
 trivial
 ⟨⟨by kernel_rfl, fun e h he hk => by
 have F := Ag.nil (e := e)
 have ⟨f, g, i, F, hk⟩ := eL F hk
 have ⟨j, F, hk⟩ := eI F hk
 have ⟨a, b, c, F, hk⟩ := eL F hk
 have ⟨d, F, hk⟩ := eI F hk
 exact bT (s0 := (a, b, c, d)) follows (fun _ h => by cases h) he F (fun s => [(13, .int .i64 s.2.2.2), (3, .slice s.1 s.2.1 s.2.2.1)]) (by kernel_rfl) (F.take 2) hk (fun Kn1 e h => dL (e 3) fun a b c => dI .i64 (e 13) fun d => Kn1 (a, b, c, d) h) (fun Kn1 e h hk => by
  have F := Ag.nil (e := e)
  have ⟨a, b, c, F, hk⟩ := eL F hk
  have ⟨d, F, hk⟩ := eI F hk
  exact ⟨(a, b, c, d), F, hk⟩)
  (fun Kn1 => [(18, fun e h => dL (e 3) fun a b c => dI .i64 (e 4) fun k => dA (e 5) fun o => dI .i64 (e 6) fun p => dL (e 11) fun f g i => dI .i64 (e 12) fun j => dI .i64 (e 13) fun d => fP a b c k o p f g i j d Q Kn1 h), (34, fun e h => dL (e 3) fun a b c => dI .i64 (e 4) fun k => dA (e 7) fun q => dI .i64 (e 10) fun r => dL (e 11) fun f g i => dI .i64 (e 12) fun j => dI .i64 (e 13) fun d => fO a b c k q r f g i j d Q Kn1 h)]) (fun Kn1 => [])
  (fun Kn1 => ⟨fun e h _ hk => by
 have F := Ag.nil (e := e)
 have ⟨a, b, c, F, hk⟩ := eL F hk
 have ⟨k, F, hk⟩ := eI F hk
 have ⟨o, F, hk⟩ := eA F hk
 have ⟨p, F, hk⟩ := eI F hk
 have ⟨f, g, i, F, hk⟩ := eL F hk
 have ⟨j, F, hk⟩ := eI F hk
 have ⟨d, F, hk⟩ := eI F hk
 exact fX F (by as_aux_lemma => kernel_rfl) hk, fun e h _ hk => by
 have F := Ag.nil (e := e)
 have ⟨a, b, c, F, hk⟩ := eL F hk
 have ⟨k, F, hk⟩ := eI F hk
 have ⟨q, F, hk⟩ := eA F hk
 have ⟨r, F, hk⟩ := eI F hk
 have ⟨f, g, i, F, hk⟩ := eL F hk
 have ⟨j, F, hk⟩ := eI F hk
 have ⟨d, F, hk⟩ := eI F hk
 exact fX F (by as_aux_lemma => kernel_rfl) hk, trivial⟩)
  (fun Kn1 => trivial) (fun e s h Kn1 => by as_aux_lemma => kernel_rfl)⟩, trivial⟩ (by as_aux_lemma => kernel_rfl) hk
def iN (a : Addr) (Q : QT) (h : aB) : Prop :=
 aD Tryz.prog io #[.pointer (some a)] h fun v h12 => v = .tuple #[] ∧ Q (.tuple #[.pointer (some a), .int .i64 0]) h12
def gE (b : Addr) (f : Option Addr) (g m : Nat) (i : Int) (Q : QT) (a : Int) (h : aB) (Kn3 : Int → aB → Prop) : Prop :=
 if (decide (a < i)) = true then (bO a g (nn f fun c => ldS h (c.add (a.toNat * 2)) fun j => ldB h ((c.add (a.toNat * 2)).add 1) fun k => alV h (.cells #[.string (⟨#[]⟩ : ByteArray), .bool false] bE) fun d h6 => stN h6 d [.string j, .bool k] 0 fun h7 => ldS h7 d fun l => aD Tryz.prog iO #[.pointer (some b), .int .i64 a, .string l] h7 fun v h8 => v = .tuple #[] ∧ Kn3 (wrap .i64 (a + 1)) h8)) else (iN b Q h)
def mU (j : Option Addr) (a k : Nat) (Q : QT) (h : aB) : Prop :=
 (yg Tryz.prog cH (.int .i64 1) (.int .i64 1) h fun v h3 => ∃ b c d, v = .slice b c d ∧ aD Tryz.prog cE #[.slice j a k] h3 fun v h4 => ∃ f g i, v = .slice f g i ∧ alV h4 (.cells #[.slice b c d, .slice f g i] kO) fun l h5 => aH (fun (s : Int) h Kn => gE l j a k ((a : Nat) : Int) Q s h Kn) 0 h5) ∧ (aD Tryz.prog cE #[.slice j a k] h fun v h9 => ∃ f g i, v = .slice f g i ∧ yg Tryz.prog cH (.int .i64 1) (.int .i64 1) h9 fun v h10 => ∃ b c d, v = .slice b c d ∧ alV h10 (.cells #[.slice b c d, .slice f g i] kO) fun l h11 => aH (fun (s : Int) h Kn => gE l j a k ((a : Nat) : Int) Q s h Kn) 0 h11)
def mM (d : Option Addr) (f g : Nat) (i : Option Addr) (j p : Nat) (k : Int) (Q : QT) (a : Int) (h : aB) (Kn1 : Int → aB → Prop) : Prop :=
 if (decide (a < k)) = true then (bO a j (nn i fun c => ldS h (c.add (a.toNat * 2)) fun l => ldB h ((c.add (a.toNat * 2)).add 1) fun m => alV h (.cells #[.string (⟨#[]⟩ : ByteArray), .bool false] bE) fun b h1 => stN h1 b [.string l, .bool m] 0 fun h2 => ldS h2 b fun n => if (n.toList == (⟨#[]⟩ : ByteArray).toList) = true then (Q (.tuple #[.pointer none, .int .i64 2]) h2) else (ldS h2 b fun o => if (decide (((o.size : Nat) : Int) > 64)) = true then (Q (.tuple #[.pointer none, .int .i64 3]) h2) else (Kn1 (wrap .i64 (a + 1)) h2)))) else (mU d f g Q h)
def r7 (b : Option Addr) (a c : Nat) (Q : QT) (h : aB) : Prop :=
 if (decide (((a : Nat) : Int) > 512)) = true then (Q (.tuple #[.pointer none, .int .i64 3]) h) else (aH (fun (s : Int) h Kn => mM b a c b a c ((a : Nat) : Int) Q s h Kn) 0 h)
set_option maxRecDepth 100000 in
theorem yf (a b c : _) {Q : QT} {h : aB} (hk : r7 a b c Q h) : aD Tryz.prog kj #[.slice a b c] h Q :=
 aS follows Tryz.func32 (Tryz.call32 _) rfl rfl [(24, fun e h => dL (e 0) fun a b c => mU a b c Q h), (36, fun e h => dA (e 6) fun g => iN g Q h)] [(10, fun e h => dL (e 0) fun a b c => dL (e 12) fun i j k => dI .i64 (e 13) fun l => dI .i64 (e 14) fun d => aH (fun (s : Int) h Kn => mM a b c i j k l Q s h Kn) d h), (28, fun e h => dA (e 6) fun g => dL (e 33) fun m n o => dI .i64 (e 34) fun p => dI .i64 (e 35) fun f => aH (fun (s : Int) h Kn => gE g m n o p Q s h Kn) f h)]
 ⟨fun e h _ hk => by
 have F := Ag.nil (e := e)
 have ⟨a, b, c, F, hk⟩ := eL F hk
 exact fX F (by as_aux_lemma => kernel_rfl) hk, fun e h _ hk => by
 have F := Ag.nil (e := e)
 have ⟨g, F, hk⟩ := eA F hk
 exact fX F (by as_aux_lemma => kernel_rfl) hk, trivial⟩
 ⟨⟨by kernel_rfl, fun e h he hk => by
 have F := Ag.nil (e := e)
 have ⟨a, b, c, F, hk⟩ := eL F hk
 have ⟨i, j, k, F, hk⟩ := eL F hk
 have ⟨l, F, hk⟩ := eI F hk
 have ⟨d, F, hk⟩ := eI F hk
 exact bT (s0 := d) follows (fun _ h => by cases h) he F (fun s => [(14, .int .i64 s)]) (by kernel_rfl) (F.take 1) hk (fun Kn1 e h => dI .i64 (e 14) fun d => Kn1 d h) (fun Kn1 e h hk => by
  have F := Ag.nil (e := e)
  have ⟨d, F, hk⟩ := eI F hk
  exact ⟨d, F, hk⟩)
  (fun Kn1 => []) (fun Kn1 => [])
  (fun Kn1 => trivial)
  (fun Kn1 => trivial) (fun e s h Kn1 => by as_aux_lemma => kernel_rfl)⟩, ⟨by kernel_rfl, fun e h he hk => by
 have F := Ag.nil (e := e)
 have ⟨g, F, hk⟩ := eA F hk
 have ⟨m, n, o, F, hk⟩ := eL F hk
 have ⟨p, F, hk⟩ := eI F hk
 have ⟨f, F, hk⟩ := eI F hk
 exact bT (s0 := f) follows (fun _ h => by cases h) he F (fun s => [(35, .int .i64 s)]) (by kernel_rfl) (F.take 1) hk (fun Kn3 e h => dI .i64 (e 35) fun f => Kn3 f h) (fun Kn3 e h hk => by
  have F := Ag.nil (e := e)
  have ⟨f, F, hk⟩ := eI F hk
  exact ⟨f, F, hk⟩)
  (fun Kn3 => []) (fun Kn3 => [])
  (fun Kn3 => trivial)
  (fun Kn3 => trivial) (fun e s h Kn3 => by as_aux_lemma => kernel_rfl)⟩, trivial⟩ (by as_aux_lemma => kernel_rfl) hk
def kQ (a : ByteArray) (Q : QT) (h : aB) : Prop :=
 Q (.tuple #[]) h
set_option maxRecDepth 100000 in
theorem oU (a : _) {Q : QT} {h : aB} (hk : kQ a Q h) : aD Tryz.prog uD #[.string a] h Q :=
 aS follows Tryz.func33 (Tryz.call33 _) rfl rfl [] []
 trivial
 trivial (by as_aux_lemma => kernel_rfl) hk
def oD (Q : QT) (h : aB) : Prop :=
 Q (.tuple #[]) h
set_option maxRecDepth 100000 in
theorem vc {Q : QT} {h : aB} (hk : oD Q h) : aD Tryz.prog uB #[] h Q :=
 aS follows Tryz.func34 (Tryz.call34 _) rfl rfl [] []
 trivial
 trivial (by as_aux_lemma => kernel_rfl) hk
def kY (a : Option Addr) (Q : QT) (h : aB) : Prop :=
 if (Option.isNone a) = true then (Q (.pointer none) h) else (alV h (.cells #[.pointer a, .int .u16 0, .int .i64 0, .slice none 0 0] fW) fun b h1 => Q (.pointer (some b)) h1)
set_option maxRecDepth 100000 in
theorem qF (a : _) {Q : QT} {h : aB} (hk : kY a Q h) : aD Tryz.prog eu #[.pointer a] h Q :=
 aS follows Tryz.func35 (Tryz.call35 _) rfl rfl [] []
 trivial
 trivial (by as_aux_lemma => kernel_rfl) hk
def oS (a : ByteArray) (j b k : Addr) (Q : QT) (h : aB) : Prop :=
 ldP h j fun c => nn c fun l => ldI h (l.add 13) .i64 fun m => nn c fun n => st1 h (n.add 13) (.int .i64 (wrap .i64 (m + ((a.size : Nat) : Int)))) fun h1 => ldP h1 b fun d => ldP h1 k fun o => aD Tryz.prog gL #[.pointer o, .string a] h1 fun v h2 => ∃ f g i, v = .slice f g i ∧ (ldP h2 b fun p => (.pointer p : Value) = .pointer d) ∧ aD Tryz.prog jo #[.pointer d, .slice f g i] h2 fun v h3 => v = .tuple #[] ∧ Q (.tuple #[]) h3
set_option maxRecDepth 100000 in
theorem va (a b c d : _) {Q : QT} {h : aB} (hk : oS a b c d Q h) : aD Tryz.prog tW #[.string a, .pointer (some b), .pointer (some c), .pointer (some d)] h Q :=
 aS follows Tryz.func36 (Tryz.call36 _) rfl rfl [] []
 trivial
 trivial (by as_aux_lemma => kernel_rfl) hk
def lw (f g : Option Addr) (i q : Nat) (j : Int) (Q : QT) (a : Int) (h : aB) (Kn1 : Int → aB → Prop) : Prop :=
 if (decide (a < j)) = true then (bO a i (nn g fun b => ldI h (b.add (a.toNat * 2)) .i64 fun k => ldI h ((b.add (a.toNat * 2)).add 1) .i64 fun l => alV h (.cells #[.int .i64 0, .int .i64 0] zn) fun c h1 => stN h1 c [.int .i64 k, .int .i64 l] 0 fun h2 => nn f fun m => ldL h2 (m.add 1) fun n o r => ldI h2 c .i64 fun d => bO d o (nn n fun p => st1 h2 (p.add (d.toNat * 1)) (.bool true) fun h3 => Kn1 (wrap .i64 (a + 1)) h3))) else (Q (.tuple #[]) h)
def qx (b c : Option Addr) (a d : Nat) (Q : QT) (h : aB) : Prop :=
 aH (fun (s : Int) h Kn => lw b c a d ((a : Nat) : Int) Q s h Kn) 0 h
set_option maxRecDepth 100000 in
theorem wF (b c d f : _) {Q : QT} {h : aB} (hk : qx b c d f Q h) : aD Tryz.prog jo #[.pointer b, .slice c d f] h Q :=
 aS follows Tryz.func37 (Tryz.call37 _) rfl rfl [] [(4, fun e h => dP (e 0) fun b => dL (e 6) fun g i j => dI .i64 (e 7) fun k => dI .i64 (e 8) fun a => aH (fun (s : Int) h Kn => lw b g i j k Q s h Kn) a h)]
 trivial
 ⟨⟨by kernel_rfl, fun e h he hk => by
 have F := Ag.nil (e := e)
 have ⟨b, F, hk⟩ := eP F hk
 have ⟨g, i, j, F, hk⟩ := eL F hk
 have ⟨k, F, hk⟩ := eI F hk
 have ⟨a, F, hk⟩ := eI F hk
 exact bT (s0 := a) follows (fun _ h => by cases h) he F (fun s => [(8, .int .i64 s)]) (by kernel_rfl) (F.take 1) hk (fun Kn1 e h => dI .i64 (e 8) fun a => Kn1 a h) (fun Kn1 e h hk => by
  have F := Ag.nil (e := e)
  have ⟨a, F, hk⟩ := eI F hk
  exact ⟨a, F, hk⟩)
  (fun Kn1 => []) (fun Kn1 => [])
  (fun Kn1 => trivial)
  (fun Kn1 => trivial) (fun e s h Kn1 => by as_aux_lemma => kernel_rfl)⟩, trivial⟩ (by as_aux_lemma => kernel_rfl) hk
def ju (j : Option Addr) (t : ByteArray) (u k : Int) (l : Option Addr) (m w : Nat) (n : Int) (Q : QT) (Kn1 : (Option Addr) × Nat × Nat × Int → aB → Prop) (b : Option Addr) (c d : Nat) (a : Int) (h : aB) (Kn2 : (Option Addr) × Nat × Nat × Int → aB → Prop) : Prop :=
 if (decide (a < n)) = true then (bO a m (nn l fun o => ldI h (o.add (a.toNat * 1)) .i64 fun p => nn j fun q => ldI h (q.add 2) .i64 fun r => alV h (.cells #[.int .i64 p, .int .i64 r] zn) fun s h2 => cQ Tryz.prog .append #[kr, kr] kr #[false, false] #[.slice b c d, .slice (some s) 1 1] h2 fun v h3 => ∃ f g i, v = .slice f g i ∧ Kn2 (f, g, i, wrap .i64 (a + 1)) h3)) else (Kn1 (b, c, d, wrap .i64 (k + 1)) h)
def jz (c : Option Addr) (d : ByteArray) (f : Int) (Q : QT) (g : Option Addr) (i j : Nat) (a : Int) (h : aB) (Kn1 : (Option Addr) × Nat × Nat × Int → aB → Prop) : Prop :=
 if (decide (a < f)) = true then (jw d a fun m => aD Tryz.prog gJ #[.pointer c, .int .u8 m] h fun v h1 => ∃ k b l, v = .slice k b l ∧ aH (fun (s : (Option Addr) × Nat × Nat × Int) h Kn => ju c d f a k b l ((b : Nat) : Int) Q Kn1 s.1 s.2.1 s.2.2.1 s.2.2.2 h Kn) (g, i, j, 0) h1) else (Q (.slice g i j) h)
def m6 (a : Option Addr) (b : ByteArray) (Q : QT) (h : aB) : Prop :=
 if (Option.isNone a) = true then (Q (.slice none 0 0) h) else (aH (fun (s : (Option Addr) × Nat × Nat × Int) h Kn => jz a b ((b.size : Nat) : Int) Q s.1 s.2.1 s.2.2.1 s.2.2.2 h Kn) (none, 0, 0, 0) h)
set_option maxRecDepth 100000 in
theorem tK (f g : _) {Q : QT} {h : aB} (hk : m6 f g Q h) : aD Tryz.prog gL #[.pointer f, .string g] h Q :=
 aS follows Tryz.func38 (Tryz.call38 _) rfl rfl [] [(12, fun e h => dP (e 0) fun f => dS (e 1) fun g => dI .i64 (e 12) fun j => dL (e 5) fun a b c => dI .i64 (e 13) fun d => aH (fun (s : (Option Addr) × Nat × Nat × Int) h Kn => jz f g j Q s.1 s.2.1 s.2.2.1 s.2.2.2 h Kn) (a, b, c, d) h)]
 trivial
 ⟨⟨by kernel_rfl, fun e h he hk => by
 have F := Ag.nil (e := e)
 have ⟨f, F, hk⟩ := eP F hk
 have ⟨g, F, hk⟩ := eS F hk
 have ⟨j, F, hk⟩ := eI F hk
 have ⟨a, b, c, F, hk⟩ := eL F hk
 have ⟨d, F, hk⟩ := eI F hk
 exact bT (s0 := (a, b, c, d)) follows (fun _ h => by cases h) he F (fun s => [(13, .int .i64 s.2.2.2), (5, .slice s.1 s.2.1 s.2.2.1)]) (by kernel_rfl) (F.take 2) hk (fun Kn1 e h => dL (e 5) fun a b c => dI .i64 (e 13) fun d => Kn1 (a, b, c, d) h) (fun Kn1 e h hk => by
  have F := Ag.nil (e := e)
  have ⟨a, b, c, F, hk⟩ := eL F hk
  have ⟨d, F, hk⟩ := eI F hk
  exact ⟨(a, b, c, d), F, hk⟩)
  (fun Kn1 => []) (fun Kn1 => [(18, fun e h => dP (e 0) fun f => dS (e 1) fun g => dI .i64 (e 12) fun j => dI .i64 (e 13) fun d => dL (e 20) fun k l m => dI .i64 (e 21) fun n => dL (e 5) fun a b c => dI .i64 (e 22) fun i => aH (fun (s : (Option Addr) × Nat × Nat × Int) h Kn => ju f g j d k l m n Q Kn1 s.1 s.2.1 s.2.2.1 s.2.2.2 h Kn) (a, b, c, i) h)])
  (fun Kn1 => trivial)
  (fun Kn1 => ⟨⟨by kernel_rfl, fun e h he hk => by
 have F := Ag.nil (e := e)
 have ⟨f, F, hk⟩ := eP F hk
 have ⟨g, F, hk⟩ := eS F hk
 have ⟨j, F, hk⟩ := eI F hk
 have ⟨d, F, hk⟩ := eI F hk
 have ⟨k, l, m, F, hk⟩ := eL F hk
 have ⟨n, F, hk⟩ := eI F hk
 have ⟨a, b, c, F, hk⟩ := eL F hk
 have ⟨i, F, hk⟩ := eI F hk
 exact bT (s0 := (a, b, c, i)) follows (tP (by kernel_rfl)) he F (fun s => [(22, .int .i64 s.2.2.2), (5, .slice s.1 s.2.1 s.2.2.1)]) (by kernel_rfl) (F.take 2) hk (fun Kn2 e h => dL (e 5) fun a b c => dI .i64 (e 22) fun i => Kn2 (a, b, c, i) h) (fun Kn2 e h hk => by
  have F := Ag.nil (e := e)
  have ⟨a, b, c, F, hk⟩ := eL F hk
  have ⟨i, F, hk⟩ := eI F hk
  exact ⟨(a, b, c, i), F, hk⟩)
  (fun Kn2 => []) (fun Kn2 => [])
  (fun Kn2 => trivial)
  (fun Kn2 => trivial) (fun e s h Kn2 => by as_aux_lemma => kernel_rfl)⟩, trivial⟩) (fun e s h Kn1 => by as_aux_lemma => kernel_rfl)⟩, trivial⟩ (by as_aux_lemma => kernel_rfl) hk
def oO (a c d : Addr) (Q : QT) (h : aB) : Prop :=
 ldP h a fun f => nn f fun g => ldL h (g.add 1) fun i j k => ldP h c fun r => nn r fun s => ldL h (s.add 12) fun t u w => kA Tryz.prog aL bW (.slice t u w) h fun v h1 => ∃ l, v = .string l ∧ (ldP h1 a fun x => (.pointer x : Value) = .pointer f) ∧ (ldL h1 (g.add 1) fun y z A => (.slice y z A : Value) = .slice i j k) ∧ aD Tryz.prog po #[.slice i j k, .string l] h1 fun v h2 => ∃ b, v = .string b ∧ ldP h2 c fun m => nn m fun B => ldI h2 (B.add 13) .i64 fun C => nn m fun D => st1 h2 (D.add 13) (.int .i64 (wrap .i64 (C + ((b.size : Nat) : Int)))) fun h3 => ldP h3 d fun n => ldP h3 a fun G => nn G fun I => ldP h3 (I.add 5) fun J => aD Tryz.prog iQ #[.pointer J, .string b] h3 fun v h4 => ∃ o p q, v = .slice o p q ∧ (ldP h4 d fun L => (.pointer L : Value) = .pointer n) ∧ aD Tryz.prog jo #[.pointer n, .slice o p q] h4 fun v h5 => v = .tuple #[] ∧ Q (.tuple #[]) h5
set_option maxRecDepth 100000 in
theorem vf (a b c : _) {Q : QT} {h : aB} (hk : oO a b c Q h) : aD Tryz.prog uk #[.pointer (some a), .pointer (some b), .pointer (some c)] h Q :=
 aS follows Tryz.func39 (Tryz.call39 _) rfl rfl [] []
 trivial
 trivial (by as_aux_lemma => kernel_rfl) hk
def mh (f : Option Addr) (g : ByteArray) (Q : QT) (h : aB) : Prop :=
 aD Tryz.prog eu #[.pointer f] h fun v h1 => ∃ a, v = .pointer a ∧ aD Tryz.prog gL #[.pointer a, .string g] h1 fun v h2 => ∃ b c d, v = .slice b c d ∧ Q (.slice b c d) h2
set_option maxRecDepth 100000 in
theorem rO (a b : _) {Q : QT} {h : aB} (hk : mh a b Q h) : aD Tryz.prog iQ #[.pointer a, .string b] h Q :=
 aS follows Tryz.func40 (Tryz.call40 _) rfl rfl [] []
 trivial
 trivial (by as_aux_lemma => kernel_rfl) hk
def oX (g : ByteArray) (a : Addr) (Q : QT) (h : aB) : Prop :=
 ldP h a fun b => ldP h a fun i => nn i fun j => ldL h (j.add 12) fun k l m => cQ Tryz.prog .append #[aL, bW] aL #[false, false] #[.slice k l m, .string g] h fun v h1 => ∃ c d f, v = .slice c d f ∧ (ldP h1 a fun n => (.pointer n : Value) = .pointer b) ∧ nn b fun o => st1 h1 (o.add 12) (.slice c d f) fun h2 => Q (.tuple #[]) h2
set_option maxRecDepth 100000 in
theorem u9 (a b : _) {Q : QT} {h : aB} (hk : oX a b Q h) : aD Tryz.prog ug #[.string a, .pointer (some b)] h Q :=
 aS follows Tryz.func41 (Tryz.call41 _) rfl rfl [] []
 trivial
 trivial (by as_aux_lemma => kernel_rfl) hk
def oJ (Q : QT) (h : aB) : Prop :=
 Q (.tuple #[]) h
set_option maxRecDepth 100000 in
theorem u6 {Q : QT} {h : aB} (hk : oJ Q h) : aD Tryz.prog tV #[] h Q :=
 aS follows Tryz.func42 (Tryz.call42 _) rfl rfl [] []
 trivial
 trivial (by as_aux_lemma => kernel_rfl) hk
def ud (f : Option Addr) (c j : Nat) (Q : QT) (b : ByteArray) (a : Int) (h : aB) (Kn1 : ByteArray × Int → aB → Prop) : Prop :=
 if (decide (a < ((c : Nat) : Int))) = true then (if (decide (a < 4)) = true then (bO a c (nn f fun g => ldI h (g.add (a.toNat * 1)) .i64 fun i => aD Tryz.prog rN #[.int .i64 i, .string b] h fun v h1 => ∃ d, v = .string d ∧ Kn1 (d, wrap .i64 (a + 1)) h1)) else (Q (.string b) h)) else (Q (.string b) h)
def Ae (a : Option Addr) (b c : Nat) (d : ByteArray) (Q : QT) (h : aB) : Prop :=
 aH (fun (s : ByteArray × Int) h Kn => ud a b c Q s.1 s.2 h Kn) (d, 0) h
set_option maxRecDepth 100000 in
theorem EO (c d f a : _) {Q : QT} {h : aB} (hk : Ae c d f a Q h) : aD Tryz.prog ue #[.slice c d f, .string a] h Q :=
 aS follows Tryz.func44 (Tryz.call44 _) rfl rfl [] [(6, fun e h => dL (e 0) fun c d f => dS (e 1) fun a => dI .i64 (e 5) fun b => aH (fun (s : ByteArray × Int) h Kn => ud c d f Q s.1 s.2 h Kn) (a, b) h)]
 trivial
 ⟨⟨by kernel_rfl, fun e h he hk => by
 have F := Ag.nil (e := e)
 have ⟨c, d, f, F, hk⟩ := eL F hk
 have ⟨a, F, hk⟩ := eS F hk
 have ⟨b, F, hk⟩ := eI F hk
 exact bT (s0 := (a, b)) follows (fun _ h => by cases h) he F (fun s => [(5, .int .i64 s.2), (1, .string s.1)]) (by kernel_rfl) (F.take 2) hk (fun Kn1 e h => dS (e 1) fun a => dI .i64 (e 5) fun b => Kn1 (a, b) h) (fun Kn1 e h hk => by
  have F := Ag.nil (e := e)
  have ⟨a, F, hk⟩ := eS F hk
  have ⟨b, F, hk⟩ := eI F hk
  exact ⟨(a, b), F, hk⟩)
  (fun Kn1 => []) (fun Kn1 => [])
  (fun Kn1 => trivial)
  (fun Kn1 => trivial) (fun e s h Kn1 => by as_aux_lemma => kernel_rfl)⟩, trivial⟩ (by as_aux_lemma => kernel_rfl) hk
end Go.Proofs.YtjmfpeiidlpngaaGreatDoor
namespace Go.Proofs.YtjmfpeiidlpngaaGreatDoor
set_option linter.unusedSimpArgs false
set_option linter.unusedVariables false
set_option maxRecDepth 20000
open Go IntKind
variable [Gh]
def gX (a : Option Addr) (b c : Nat) (d : Int) (Q : QT) (h : aB) : Prop :=
 fM 1 a b c (some d) none none fun f g i => cQ Tryz.prog .clear #[bG] T_t #[false] #[.slice f g i] h fun v h4 => v = .tuple #[] ∧ fM 1 a b c none (some d) none fun j k l => Q (.slice j k l) h4
def hY (d : Option Addr) (c i : Nat) (j : Value) (Q : QT) (a b : Int) (h : aB) (Kn1 : Int × Int → aB → Prop) : Prop :=
 if (decide (b < ((c : Nat) : Int))) = true then (bO b c (nn d fun k => ldI h (k.add (b.toNat * 1)) .i64 fun f => my Tryz.prog j #[.int .i64 f] h fun v h2 => ∃ g, v = .bool g ∧ if (!g) = true then (bO a c (nn d fun l => st1 h2 (l.add (a.toNat * 1)) (.int .i64 f) fun h3 => Kn1 (wrap .i64 (a + 1), wrap .i64 (b + 1)) h3)) else (Kn1 (a, wrap .i64 (b + 1)) h2))) else (gX d c i a Q h)
def lh (b : Option Addr) (c d : Nat) (f : Value) (Q : QT) (h : aB) : Prop :=
 aD Tryz.prog ik #[.slice b c d, f] h fun v h1 => ∃ a, v = .int .i64 a ∧ if (a == (-1)) = true then (Q (.slice b c d) h1) else (aH (fun (s : Int × Int) h Kn => hY b c d f Q s.1 s.2 h Kn) (a, wrap .i64 (a + 1)) h1)
set_option maxRecDepth 100000 in
theorem qB (b c d g : _) {Q : QT} {h : aB} (hk : lh b c d g Q h) : aD Tryz.prog gZ #[.slice b c d, g] h Q :=
 aS follows Tryz.func45 (Tryz.call45 _) rfl rfl [(24, fun e h => dL (e 0) fun b c d => dI .i64 (e 5) fun a => gX b c d a Q h)] [(12, fun e h => dL (e 0) fun b c d => dV (e 1) fun g => dI .i64 (e 5) fun a => dI .i64 (e 6) fun f => aH (fun (s : Int × Int) h Kn => hY b c d g Q s.1 s.2 h Kn) (a, f) h)]
 ⟨fun e h _ hk => by
 have F := Ag.nil (e := e)
 have ⟨b, c, d, F, hk⟩ := eL F hk
 have ⟨a, F, hk⟩ := eI F hk
 exact fX F (by as_aux_lemma => kernel_rfl) hk, trivial⟩
 ⟨⟨by kernel_rfl, fun e h he hk => by
 have F := Ag.nil (e := e)
 have ⟨b, c, d, F, hk⟩ := eL F hk
 have ⟨g, F, hk⟩ := eV F hk
 have ⟨a, F, hk⟩ := eI F hk
 have ⟨f, F, hk⟩ := eI F hk
 exact bT (s0 := (a, f)) follows (fun _ h => by cases h) he F (fun s => [(6, .int .i64 s.2), (5, .int .i64 s.1)]) (by kernel_rfl) (F.take 2) hk (fun Kn1 e h => dI .i64 (e 5) fun a => dI .i64 (e 6) fun f => Kn1 (a, f) h) (fun Kn1 e h hk => by
  have F := Ag.nil (e := e)
  have ⟨a, F, hk⟩ := eI F hk
  have ⟨f, F, hk⟩ := eI F hk
  exact ⟨(a, f), F, hk⟩)
  (fun Kn1 => []) (fun Kn1 => [])
  (fun Kn1 => trivial)
  (fun Kn1 => trivial) (fun e s h Kn1 => by as_aux_lemma => kernel_rfl)⟩, trivial⟩ (by as_aux_lemma => kernel_rfl) hk
def li (a : Int) (d : Addr) (Q : QT) (h : aB) : Prop :=
 ldP h d fun g => nn g fun i => ldP h i fun j => nn j fun k => ldL h k fun l m aw => bO a m (nn l fun b => ldI h (b.add (a.toNat * 25)) .i64 fun n => ldI h ((b.add (a.toNat * 25)).add 1) .i64 fun o => ldL h ((b.add (a.toNat * 25)).add 2) fun p q r => ldL h ((b.add (a.toNat * 25)).add 3) fun s t u => ldL h ((b.add (a.toNat * 25)).add 4) fun w x y => ldL h ((b.add (a.toNat * 25)).add 5) fun z A B => ldB h ((b.add (a.toNat * 25)).add 6) fun C => ldI h ((b.add (a.toNat * 25)).add 7) .i64 fun D => ldI h ((b.add (a.toNat * 25)).add 8) .i64 fun G => ldI h ((b.add (a.toNat * 25)).add 9) .i64 fun I => ldS h ((b.add (a.toNat * 25)).add 10) fun J => ldI h ((b.add (a.toNat * 25)).add 11) .i64 fun L => ldI h ((b.add (a.toNat * 25)).add 12) .i64 fun M => ldL h ((b.add (a.toNat * 25)).add 13) fun N O P => ldL h ((b.add (a.toNat * 25)).add 14) fun R S U => ldL h ((b.add (a.toNat * 25)).add 15) fun V W X => ldL h ((b.add (a.toNat * 25)).add 16) fun Y Z a0 => ldI h ((b.add (a.toNat * 25)).add 17) .i64 fun a1 => ldI h ((b.add (a.toNat * 25)).add 18) .i64 fun a2 => ldI h ((b.add (a.toNat * 25)).add 19) .i64 fun a3 => ldI h ((b.add (a.toNat * 25)).add 20) .i64 fun a4 => ldL h ((b.add (a.toNat * 25)).add 21) fun a5 a6 a7 => ldL h ((b.add (a.toNat * 25)).add 22) fun a8 a9 aa => ldL h ((b.add (a.toNat * 25)).add 23) fun ab ac ad => ldL h ((b.add (a.toNat * 25)).add 24) fun ae af ag => ldP h d fun ah => nn ah fun c => ldI h (c.add 1) .i64 fun ai => ldB h (c.add 2) fun aj => ldI h (c.add 3) .u64 fun ak => ldI h (c.add 4) .u64 fun al => ldB h (c.add 5) fun am => ldI h (c.add 6) .u64 fun an => ldI h (c.add 7) .u64 fun ao => ldI h (c.add 8) .i64 fun ap => ldI h (c.add 9) .i64 fun aq => ldP h d fun ar => nn ar fun au => ldI h (au.add 10) .i64 fun av => aD Tryz.prog jm #[.agg #[.int .i64 n, .int .i64 o, .slice p q r, .slice s t u, .slice w x y, .slice z A B, .bool C, .int .i64 D, .int .i64 G, .int .i64 I, .string J, .int .i64 L, .int .i64 M, .slice N O P, .slice R S U, .slice V W X, .slice Y Z a0, .int .i64 a1, .int .i64 a2, .int .i64 a3, .int .i64 a4, .slice a5 a6 a7, .slice a8 a9 aa, .slice ab ac ad, .slice ae af ag], .agg #[.int .i64 ai, .bool aj, .int .u64 ak, .int .u64 al, .bool am, .int .u64 an, .int .u64 ao, .int .i64 ap, .int .i64 aq], .int .i64 av] h fun v h1 => ∃ f, v = .bool f ∧ Q (.bool (!f)) h1)
set_option maxRecDepth 100000 in
theorem qH (a b : _) {Q : QT} {h : aB} (hk : li a b Q h) : aD Tryz.prog pY #[.int .i64 a, .pointer (some b)] h Q :=
 aS follows Tryz.func46 (Tryz.call46 _) rfl rfl [] []
 trivial
 trivial (by as_aux_lemma => kernel_rfl) hk
def cZ (a f b : Addr) (Q : QT) (h : aB) : Prop :=
 ldB h (a.add 1) fun g => ldI h (a.add 2) .u64 fun i => ldI h (a.add 3) .u64 fun j => ldB h (a.add 4) fun k => ldI h (a.add 5) .u64 fun l => ldI h (a.add 6) .u64 fun m => ldI h (a.add 7) .i64 fun n => ldI h (a.add 8) .i64 fun o => aD Tryz.prog im #[.agg #[.bool g, .int .u64 i, .int .u64 j], .agg #[.bool k, .int .u64 l, .int .u64 m], .int .i64 n, .int .i64 o, .pointer (some b)] h fun v h5 => ∃ c, v = .bool c ∧ if c = true then (Q (.bool true) h5) else (ldB h5 (f.add 6) fun p => if p = true then (ldB h5 (a.add 4) fun q => ldI h5 (a.add 5) .u64 fun r => ldI h5 (a.add 6) .u64 fun s => ldB h5 (a.add 1) fun t => ldI h5 (a.add 2) .u64 fun u => ldI h5 (a.add 3) .u64 fun w => ldI h5 (a.add 8) .i64 fun x => ldI h5 (a.add 7) .i64 fun y => aD Tryz.prog im #[.agg #[.bool q, .int .u64 r, .int .u64 s], .agg #[.bool t, .int .u64 u, .int .u64 w], .int .i64 x, .int .i64 y, .pointer (some b)] h5 fun v h6 => ∃ d, v = .bool d ∧ Q (.bool d) h6) else (Q (.bool false) h5))
def qy (i j : Int) (k : Option Addr) (l m : Nat) (n : Option Addr) (o p : Nat) (q : Option Addr) (r s : Nat) (t : Option Addr) (u w : Nat) (x : Bool) (y z A : Int) (B : ByteArray) (C D : Int) (G : Option Addr) (I J : Nat) (L : Option Addr) (M N : Nat) (O : Option Addr) (P R : Nat) (S : Option Addr) (U V : Nat) (W X Y Z : Int) (a0 : Option Addr) (a1 a2 : Nat) (a3 : Option Addr) (a4 a5 : Nat) (a6 : Option Addr) (a7 a8 : Nat) (a9 : Option Addr) (aa ab : Nat) (ac : Int) (ad : Bool) (ae af : Int) (ag : Bool) (ah ai aj ak d : Int) (Q : QT) (h : aB) : Prop :=
 alV h (.cells #[.int .i64 i, .int .i64 j, .slice k l m, .slice n o p, .slice q r s, .slice t u w, .bool x, .int .i64 y, .int .i64 z, .int .i64 A, .string B, .int .i64 C, .int .i64 D, .slice G I J, .slice L M N, .slice O P R, .slice S U V, .int .i64 W, .int .i64 X, .int .i64 Y, .int .i64 Z, .slice a0 a1 a2, .slice a3 a4 a5, .slice a6 a7 a8, .slice a9 aa ab] cA) fun a h1 => alV h1 (.cells #[.int .i64 ac, .bool ad, .int .u64 ae, .int .u64 af, .bool ag, .int .u64 ah, .int .u64 ai, .int .i64 aj, .int .i64 ak] hU) fun c h2 => ldI h2 a .i64 fun al => ldI h2 (a.add 1) .i64 fun am => ldL h2 (a.add 2) fun an ao ap => ldL h2 (a.add 3) fun aq ar au => ldL h2 (a.add 4) fun av aw ax => ldL h2 (a.add 5) fun ay az b0 => ldB h2 (a.add 6) fun b1 => ldI h2 (a.add 7) .i64 fun b2 => ldI h2 (a.add 8) .i64 fun b3 => ldI h2 (a.add 9) .i64 fun b4 => ldS h2 (a.add 10) fun b5 => ldI h2 (a.add 11) .i64 fun b6 => ldI h2 (a.add 12) .i64 fun b7 => ldL h2 (a.add 13) fun b8 b9 ba => ldL h2 (a.add 14) fun bb bc bd => ldL h2 (a.add 15) fun bf bg bh => ldL h2 (a.add 16) fun bi bj bk => ldI h2 (a.add 17) .i64 fun bl => ldI h2 (a.add 18) .i64 fun bm => ldI h2 (a.add 19) .i64 fun bn => ldI h2 (a.add 20) .i64 fun bo => alV h2 (.cells #[.int .i64 0, .int .i64 0, .slice none 0 0, .slice none 0 0, .slice none 0 0, .slice none 0 0, .bool false, .int .i64 0, .int .i64 0, .int .i64 0, .string (⟨#[]⟩ : ByteArray), .int .i64 0, .int .i64 0, .slice none 0 0, .slice none 0 0, .slice none 0 0, .slice none 0 0, .int .i64 0, .int .i64 0, .int .i64 0, .int .i64 0] cK) fun b h3 => stN h3 b [.int .i64 al, .int .i64 am, .slice an ao ap, .slice aq ar au, .slice av aw ax, .slice ay az b0, .bool b1, .int .i64 b2, .int .i64 b3, .int .i64 b4, .string b5, .int .i64 b6, .int .i64 b7, .slice b8 b9 ba, .slice bb bc bd, .slice bf bg bh, .slice bi bj bk, .int .i64 bl, .int .i64 bm, .int .i64 bn, .int .i64 bo] 0 fun h4 => ldI h4 (b.add 1) .i64 fun bp => ldI h4 c .i64 fun bq => if (bp != bq) = true then (Q (.bool false) h4) else (if (d != 1) = true then (if (d != 2) = true then (Q (.bool false) h4) else (ldI h4 (b.add 11) .i64 fun f => if (f != 0) = true then (ldI h4 (b.add 11) .i64 fun g => if (g != d) = true then (Q (.bool false) h4) else (cZ c b a Q h4)) else (cZ c b a Q h4))) else (ldI h4 (b.add 11) .i64 fun f => if (f != 0) = true then (ldI h4 (b.add 11) .i64 fun g => if (g != d) = true then (Q (.bool false) h4) else (cZ c b a Q h4)) else (cZ c b a Q h4)))
set_option maxRecDepth 100000 in
theorem wK (a b c d f g i j k l m n o p r s t u w x y z A B C D G I J L M N O P R S U V W X Y Z a0 a1 a2 a3 a4 a5 a6 a7 a8 a9 aa ab ac ad ae af ag : _) {Q : QT} {h : aB} (hk : qy a b c d f g i j k l m n o p r s t u w x y z A B C D G I J L M N O P R S U V W X Y Z a0 a1 a2 a3 a4 a5 a6 a7 a8 a9 aa ab ac ad ae af ag Q h) : aD Tryz.prog jm #[.agg #[.int .i64 a, .int .i64 b, .slice c d f, .slice g i j, .slice k l m, .slice n o p, .bool r, .int .i64 s, .int .i64 t, .int .i64 u, .string w, .int .i64 x, .int .i64 y, .slice z A B, .slice C D G, .slice I J L, .slice M N O, .int .i64 P, .int .i64 R, .int .i64 S, .int .i64 U, .slice V W X, .slice Y Z a0, .slice a1 a2 a3, .slice a4 a5 a6], .agg #[.int .i64 a7, .bool a8, .int .u64 a9, .int .u64 aa, .bool ab, .int .u64 ac, .int .u64 ad, .int .i64 ae, .int .i64 af], .int .i64 ag] h Q :=
 aS follows Tryz.func47 (Tryz.call47 _) rfl rfl [(12, fun e h => dA (e 4) fun ah => dA (e 7) fun ai => dF 88 (e 8) fun aj => dC aj fun ak al => dA ak fun am => dE al (cZ ah ai am Q h))] []
 ⟨fun e h _ hk => by
 have F := Ag.nil (e := e)
 have ⟨ah, F, hk⟩ := eA F hk
 have ⟨ai, F, hk⟩ := eA F hk
 obtain ⟨aj, F, hk2⟩ := eF F hk; clear hk; have hk := hk2; clear hk2
 obtain ⟨ak, al, q, hk2⟩ := He hk
 clear hk; subst q; have hk := hk2; clear hk2
 obtain ⟨am, q, hk2⟩ := Ha hk
 clear hk; subst q; have hk := hk2; clear hk2
 obtain ⟨q, hk2⟩ := GT hk
 clear hk; subst q; have hk := hk2; clear hk2
 exact fX F (by as_aux_lemma => kernel_rfl) hk, trivial⟩
 trivial (by as_aux_lemma => kernel_rfl) hk
def iZ (a : Option Addr) (b c : Nat) (d : Int) (Q : QT) (Kn1 : Int → aB → Prop) (h : aB) : Prop :=
 fM 1 a b c (some d) none none fun f g i => cQ Tryz.prog .clear #[bG] T_t #[false] #[.slice f g i] h fun v h2 => v = .tuple #[] ∧ fM 1 a b c none (some d) none fun j k l => Q (.slice j k l) h2
def iV (f : Option Addr) (g i : Nat) (d : Option Addr) (c q : Nat) (Q : QT) (Kn1 : Int → aB → Prop) (b a : Int) (h : aB) (Kn2 : Int × Int → aB → Prop) : Prop :=
 if (decide (a < ((c : Nat) : Int))) = true then (bO a c (nn d fun j => ldI h (j.add (a.toNat * 1)) .i64 fun k => bO (wrap .i64 (a - 1)) c (nn d fun l => ldI h (l.add (((wrap .i64 (a - 1))).toNat * 1)) .i64 fun m => if (k != m) = true then (bO a c (nn d fun n => ldI h (n.add (a.toNat * 1)) .i64 fun o => bO b g (nn f fun p => st1 h (p.add (b.toNat * 1)) (.int .i64 o) fun h1 => Kn2 (wrap .i64 (b + 1), wrap .i64 (a + 1)) h1))) else (Kn2 (b, wrap .i64 (a + 1)) h)))) else (iZ f g i b Q Kn1 h)
def iX (c : Option Addr) (b d : Nat) (Q : QT) (a : Int) (h : aB) (Kn1 : Int → aB → Prop) : Prop :=
 if (decide (a < ((b : Nat) : Int))) = true then (bO a b (nn c fun f => ldI h (f.add (a.toNat * 1)) .i64 fun g => bO (wrap .i64 (a - 1)) b (nn c fun i => ldI h (i.add (((wrap .i64 (a - 1))).toNat * 1)) .i64 fun j => if (g == j) = true then (fM 1 c b d (some a) none none fun k l m => aH (fun (s : Int × Int) h Kn => iV c b d k l m Q Kn1 s.1 s.2 h Kn) (a, 1) h) else (Kn1 (wrap .i64 (a + 1)) h)))) else (Q (.slice c b d) h)
def mr (b : Option Addr) (a c : Nat) (Q : QT) (h : aB) : Prop :=
 if (decide (((a : Nat) : Int) < 2)) = true then (Q (.slice b a c) h) else (aH (fun (s : Int) h Kn => iX b a c Q s h Kn) 1 h)
set_option maxRecDepth 100000 in
theorem si (b c d : _) {Q : QT} {h : aB} (hk : mr b c d Q h) : aD Tryz.prog iY #[.slice b c d] h Q :=
 aS follows Tryz.func49 (Tryz.call49 _) rfl rfl [] [(10, fun e h => dL (e 0) fun b c d => dI .i64 (e 3) fun a => aH (fun (s : Int) h Kn => iX b c d Q s h Kn) a h)]
 trivial
 ⟨⟨by kernel_rfl, fun e h he hk => by
 have F := Ag.nil (e := e)
 have ⟨b, c, d, F, hk⟩ := eL F hk
 have ⟨a, F, hk⟩ := eI F hk
 exact bT (s0 := a) follows (fun _ h => by cases h) he F (fun s => [(3, .int .i64 s)]) (by kernel_rfl) (F.take 1) hk (fun Kn1 e h => dI .i64 (e 3) fun a => Kn1 a h) (fun Kn1 e h hk => by
  have F := Ag.nil (e := e)
  have ⟨a, F, hk⟩ := eI F hk
  exact ⟨a, F, hk⟩)
  (fun Kn1 => [(30, fun e h => dL (e 0) fun b c d => dI .i64 (e 3) fun a => iZ b c d a Q Kn1 h)]) (fun Kn1 => [(20, fun e h => dL (e 0) fun b c d => dL (e 4) fun g i j => dI .i64 (e 3) fun a => dI .i64 (e 5) fun f => aH (fun (s : Int × Int) h Kn => iV b c d g i j Q Kn1 s.1 s.2 h Kn) (a, f) h)])
  (fun Kn1 => ⟨fun e h _ hk => by
 have F := Ag.nil (e := e)
 have ⟨b, c, d, F, hk⟩ := eL F hk
 have ⟨a, F, hk⟩ := eI F hk
 exact fX F (by as_aux_lemma => kernel_rfl) hk, trivial⟩)
  (fun Kn1 => ⟨⟨by kernel_rfl, fun e h he hk => by
 have F := Ag.nil (e := e)
 have ⟨b, c, d, F, hk⟩ := eL F hk
 have ⟨g, i, j, F, hk⟩ := eL F hk
 have ⟨a, F, hk⟩ := eI F hk
 have ⟨f, F, hk⟩ := eI F hk
 exact bT (s0 := (a, f)) follows (tP (by kernel_rfl)) he F (fun s => [(5, .int .i64 s.2), (3, .int .i64 s.1)]) (by kernel_rfl) (F.take 2) hk (fun Kn2 e h => dI .i64 (e 3) fun a => dI .i64 (e 5) fun f => Kn2 (a, f) h) (fun Kn2 e h hk => by
  have F := Ag.nil (e := e)
  have ⟨a, F, hk⟩ := eI F hk
  have ⟨f, F, hk⟩ := eI F hk
  exact ⟨(a, f), F, hk⟩)
  (fun Kn2 => []) (fun Kn2 => [])
  (fun Kn2 => trivial)
  (fun Kn2 => trivial) (fun e s h Kn2 => by as_aux_lemma => kernel_rfl)⟩, trivial⟩) (fun e s h Kn1 => by as_aux_lemma => kernel_rfl)⟩, trivial⟩ (by as_aux_lemma => kernel_rfl) hk
def kh (a : Option Addr) (f g : Nat) (Q : QT) (h : aB) : Prop :=
 if (Option.isNone a) = true then (Q (.slice none 0 0) h) else (alV h (.cells #[] oF) fun i h1 => cQ Tryz.prog .append #[bG, bG] bG #[false, false] #[.slice (some i) 0 0, .slice a f g] h1 fun v h2 => ∃ b c d, v = .slice b c d ∧ Q (.slice b c d) h2)
set_option maxRecDepth 100000 in
theorem ny (a b c : _) {Q : QT} {h : aB} (hk : kh a b c Q h) : aD Tryz.prog cX #[.slice a b c] h Q :=
 aS follows Tryz.func50 (Tryz.call50 _) rfl rfl [] []
 trivial
 trivial (by as_aux_lemma => kernel_rfl) hk
def gD (a b : Addr) (Q : QT) (h : aB) : Prop :=
 ldI h a .i64 fun f => ldI h (a.add 1) .i64 fun g => ldL h (a.add 2) fun i j k => ldL h (a.add 3) fun l m n => ldL h (a.add 4) fun o p q => ldL h (a.add 5) fun r s t => ldB h (a.add 6) fun u => ldI h (a.add 7) .i64 fun w => ldI h (a.add 8) .i64 fun x => ldI h (a.add 9) .i64 fun y => ldS h (a.add 10) fun z => ldI h (a.add 11) .i64 fun A => ldI h (a.add 12) .i64 fun B => ldL h (a.add 13) fun C D G => ldL h (a.add 14) fun I J L => ldL h (a.add 15) fun M N O => ldL h (a.add 16) fun P R S => ldI h (a.add 17) .i64 fun U => ldI h (a.add 18) .i64 fun V => ldI h (a.add 19) .i64 fun W => ldI h (a.add 20) .i64 fun X => ldL h (a.add 21) fun Y Z a0 => ldL h (a.add 22) fun a1 a2 a3 => ldL h (a.add 23) fun a4 a5 a6 => ldL h (a.add 24) fun a7 a8 a9 => ldI h b .i64 fun aa => ldB h (b.add 1) fun ab => ldI h (b.add 2) .u64 fun ac => ldI h (b.add 3) .u64 fun ad => ldB h (b.add 4) fun ae => ldI h (b.add 5) .u64 fun af => ldI h (b.add 6) .u64 fun ag => ldI h (b.add 7) .i64 fun ah => ldI h (b.add 8) .i64 fun ai => aD Tryz.prog pC #[.agg #[.int .i64 f, .int .i64 g, .slice i j k, .slice l m n, .slice o p q, .slice r s t, .bool u, .int .i64 w, .int .i64 x, .int .i64 y, .string z, .int .i64 A, .int .i64 B, .slice C D G, .slice I J L, .slice M N O, .slice P R S, .int .i64 U, .int .i64 V, .int .i64 W, .int .i64 X, .slice Y Z a0, .slice a1 a2 a3, .slice a4 a5 a6, .slice a7 a8 a9], .agg #[.int .i64 aa, .bool ab, .int .u64 ac, .int .u64 ad, .bool ae, .int .u64 af, .int .u64 ag, .int .i64 ah, .int .i64 ai]] h fun v h3 => ∃ c, v = .bool c ∧ if c = true then (Q (.bool true) h3) else (ldB h3 (a.add 6) fun aj => if aj = true then (ldI h3 a .i64 fun ak => ldI h3 (a.add 1) .i64 fun al => ldL h3 (a.add 2) fun am an ao => ldL h3 (a.add 3) fun ap aq ar => ldL h3 (a.add 4) fun au av aw => ldL h3 (a.add 5) fun ax ay az => ldB h3 (a.add 6) fun b0 => ldI h3 (a.add 7) .i64 fun b1 => ldI h3 (a.add 8) .i64 fun b2 => ldI h3 (a.add 9) .i64 fun b3 => ldS h3 (a.add 10) fun b4 => ldI h3 (a.add 11) .i64 fun b5 => ldI h3 (a.add 12) .i64 fun b6 => ldL h3 (a.add 13) fun b7 b8 b9 => ldL h3 (a.add 14) fun ba bb bc => ldL h3 (a.add 15) fun bd bf bg => ldL h3 (a.add 16) fun bh bi bj => ldI h3 (a.add 17) .i64 fun bk => ldI h3 (a.add 18) .i64 fun bl => ldI h3 (a.add 19) .i64 fun bm => ldI h3 (a.add 20) .i64 fun bn => ldL h3 (a.add 21) fun bo bp bq => ldL h3 (a.add 22) fun br bt bu => ldL h3 (a.add 23) fun bv bw bx => ldL h3 (a.add 24) fun bz c0 c1 => ldI h3 b .i64 fun c2 => ldB h3 (b.add 4) fun c3 => ldI h3 (b.add 5) .u64 fun c4 => ldI h3 (b.add 6) .u64 fun c5 => ldB h3 (b.add 1) fun c6 => ldI h3 (b.add 2) .u64 fun c7 => ldI h3 (b.add 3) .u64 fun c8 => ldI h3 (b.add 8) .i64 fun c9 => ldI h3 (b.add 7) .i64 fun ca => aD Tryz.prog pC #[.agg #[.int .i64 ak, .int .i64 al, .slice am an ao, .slice ap aq ar, .slice au av aw, .slice ax ay az, .bool b0, .int .i64 b1, .int .i64 b2, .int .i64 b3, .string b4, .int .i64 b5, .int .i64 b6, .slice b7 b8 b9, .slice ba bb bc, .slice bd bf bg, .slice bh bi bj, .int .i64 bk, .int .i64 bl, .int .i64 bm, .int .i64 bn, .slice bo bp bq, .slice br bt bu, .slice bv bw bx, .slice bz c0 c1], .agg #[.int .i64 c2, .bool c3, .int .u64 c4, .int .u64 c5, .bool c6, .int .u64 c7, .int .u64 c8, .int .i64 c9, .int .i64 ca]] h3 fun v h4 => ∃ d, v = .bool d ∧ Q (.bool d) h4) else (Q (.bool false) h3))
def u2 (g i : Int) (j : Option Addr) (k l : Nat) (m : Option Addr) (n o : Nat) (p : Option Addr) (q r : Nat) (s : Option Addr) (t u : Nat) (w : Bool) (x y z : Int) (A : ByteArray) (B C : Int) (D : Option Addr) (G I : Nat) (J : Option Addr) (L M : Nat) (N : Option Addr) (O P : Nat) (R : Option Addr) (S U : Nat) (V W X Y : Int) (Z : Option Addr) (a0 a1 : Nat) (a2 : Option Addr) (a3 a4 : Nat) (a5 : Option Addr) (a6 a7 : Nat) (a8 : Option Addr) (a9 aa : Nat) (ab : Int) (ac : Bool) (ad ae : Int) (af : Bool) (ag ah ai aj c : Int) (Q : QT) (h : aB) : Prop :=
 alV h (.cells #[.int .i64 g, .int .i64 i, .slice j k l, .slice m n o, .slice p q r, .slice s t u, .bool w, .int .i64 x, .int .i64 y, .int .i64 z, .string A, .int .i64 B, .int .i64 C, .slice D G I, .slice J L M, .slice N O P, .slice R S U, .int .i64 V, .int .i64 W, .int .i64 X, .int .i64 Y, .slice Z a0 a1, .slice a2 a3 a4, .slice a5 a6 a7, .slice a8 a9 aa] cA) fun a h1 => alV h1 (.cells #[.int .i64 ab, .bool ac, .int .u64 ad, .int .u64 ae, .bool af, .int .u64 ag, .int .u64 ah, .int .i64 ai, .int .i64 aj] hU) fun b h2 => ldI h2 (a.add 1) .i64 fun ak => ldI h2 b .i64 fun al => if (ak != al) = true then (Q (.bool false) h2) else (if (c != 1) = true then (if (c != 2) = true then (Q (.bool false) h2) else (ldI h2 (a.add 11) .i64 fun d => if (d != 0) = true then (ldI h2 (a.add 11) .i64 fun f => if (f != c) = true then (Q (.bool false) h2) else (gD a b Q h2)) else (gD a b Q h2))) else (ldI h2 (a.add 11) .i64 fun d => if (d != 0) = true then (ldI h2 (a.add 11) .i64 fun f => if (f != c) = true then (Q (.bool false) h2) else (gD a b Q h2)) else (gD a b Q h2)))
set_option maxRecDepth 100000 in
theorem Ao (a b c d f g i j k l m n o p q r s t u w x y z A B C D G I J L M N O P R S U V W X Y Z a0 a1 a2 a3 a4 a5 a6 a7 a8 a9 aa ab ac ad ae af : _) {Q : QT} {h : aB} (hk : u2 a b c d f g i j k l m n o p q r s t u w x y z A B C D G I J L M N O P R S U V W X Y Z a0 a1 a2 a3 a4 a5 a6 a7 a8 a9 aa ab ac ad ae af Q h) : aD Tryz.prog ma #[.agg #[.int .i64 a, .int .i64 b, .slice c d f, .slice g i j, .slice k l m, .slice n o p, .bool q, .int .i64 r, .int .i64 s, .int .i64 t, .string u, .int .i64 w, .int .i64 x, .slice y z A, .slice B C D, .slice G I J, .slice L M N, .int .i64 O, .int .i64 P, .int .i64 R, .int .i64 S, .slice U V W, .slice X Y Z, .slice a0 a1 a2, .slice a3 a4 a5], .agg #[.int .i64 a6, .bool a7, .int .u64 a8, .int .u64 a9, .bool aa, .int .u64 ab, .int .u64 ac, .int .i64 ad, .int .i64 ae], .int .i64 af] h Q :=
 aS follows Tryz.func51 (Tryz.call51 _) rfl rfl [(8, fun e h => dA (e 3) fun ag => dA (e 4) fun ah => gD ag ah Q h)] []
 ⟨fun e h _ hk => by
 have F := Ag.nil (e := e)
 have ⟨ag, F, hk⟩ := eA F hk
 have ⟨ah, F, hk⟩ := eA F hk
 exact fX F (by as_aux_lemma => kernel_rfl) hk, trivial⟩
 trivial (by as_aux_lemma => kernel_rfl) hk
def pA (b : Addr) (c : ByteArray) (Q : QT) (a : Int) (h : aB) (Kn1 : Int → aB → Prop) : Prop :=
 if (decide (a ≤ ((c.size : Nat) : Int))) = true then (ldS h b fun f => ldB h (b.add 1) fun g => aD Tryz.prog vu #[.agg #[.string f, .bool g, .bool false, .bool false, .int .i64 0, .int .i64 0, .bool false], .string c, .int .i64 a] h fun v h10 => ∃ d, v = .bool d ∧ if d = true then (Q (.bool true) h10) else (Kn1 (wrap .i64 (a + 1)) h10)) else (Q (.bool false) h)
def u5 (i : Option Addr) (a p : Int) (q : Bool) (r t : Int) (u : Bool) (w x y z A B C : Int) (D : ByteArray) (Q : QT) (h : aB) : Prop :=
 alV h (.cells #[.int .i64 p, .bool q, .int .u64 r, .int .u64 t, .bool u, .int .u64 w, .int .u64 x, .int .i64 y, .int .i64 z] hU) fun f h1 => alV h1 (.cells #[.int .i64 A, .int .i64 B, .int .i64 C, .string D] od) fun g h2 => nn i fun G => ldL h2 G fun I J dr => bO a J (nn I fun d => ldI h2 (d.add (a.toNat * 25)) .i64 fun L => ldI h2 ((d.add (a.toNat * 25)).add 1) .i64 fun M => ldL h2 ((d.add (a.toNat * 25)).add 2) fun N O P => ldL h2 ((d.add (a.toNat * 25)).add 3) fun R S U => ldL h2 ((d.add (a.toNat * 25)).add 4) fun V W X => ldL h2 ((d.add (a.toNat * 25)).add 5) fun Y Z a0 => ldB h2 ((d.add (a.toNat * 25)).add 6) fun a1 => ldI h2 ((d.add (a.toNat * 25)).add 7) .i64 fun a2 => ldI h2 ((d.add (a.toNat * 25)).add 8) .i64 fun a3 => ldI h2 ((d.add (a.toNat * 25)).add 9) .i64 fun a4 => ldS h2 ((d.add (a.toNat * 25)).add 10) fun a5 => ldI h2 ((d.add (a.toNat * 25)).add 11) .i64 fun a6 => ldI h2 ((d.add (a.toNat * 25)).add 12) .i64 fun a7 => ldL h2 ((d.add (a.toNat * 25)).add 13) fun a8 a9 aa => ldL h2 ((d.add (a.toNat * 25)).add 14) fun ab ac ad => ldL h2 ((d.add (a.toNat * 25)).add 15) fun ae af ag => ldL h2 ((d.add (a.toNat * 25)).add 16) fun ah ai aj => ldI h2 ((d.add (a.toNat * 25)).add 17) .i64 fun ak => ldI h2 ((d.add (a.toNat * 25)).add 18) .i64 fun al => ldI h2 ((d.add (a.toNat * 25)).add 19) .i64 fun am => ldI h2 ((d.add (a.toNat * 25)).add 20) .i64 fun an => alV h2 (.cells #[.int .i64 0, .int .i64 0, .slice none 0 0, .slice none 0 0, .slice none 0 0, .slice none 0 0, .bool false, .int .i64 0, .int .i64 0, .int .i64 0, .string (⟨#[]⟩ : ByteArray), .int .i64 0, .int .i64 0, .slice none 0 0, .slice none 0 0, .slice none 0 0, .slice none 0 0, .int .i64 0, .int .i64 0, .int .i64 0, .int .i64 0] cK) fun c h3 => stN h3 c [.int .i64 L, .int .i64 M, .slice N O P, .slice R S U, .slice V W X, .slice Y Z a0, .bool a1, .int .i64 a2, .int .i64 a3, .int .i64 a4, .string a5, .int .i64 a6, .int .i64 a7, .slice a8 a9 aa, .slice ab ac ad, .slice ae af ag, .slice ah ai aj, .int .i64 ak, .int .i64 al, .int .i64 am, .int .i64 an] 0 fun h4 => ldI h4 (c.add 12) .i64 fun ao => ldI h4 g .i64 fun ap => if (ao != ap) = true then (Q (.bool false) h4) else (nn i fun aq => ldL h4 aq fun ar au dt => bO a au (nn ar fun b => ldI h4 (b.add (a.toNat * 25)) .i64 fun av => ldI h4 ((b.add (a.toNat * 25)).add 1) .i64 fun aw => ldL h4 ((b.add (a.toNat * 25)).add 2) fun ax ay az => ldL h4 ((b.add (a.toNat * 25)).add 3) fun b0 b1 b2 => ldL h4 ((b.add (a.toNat * 25)).add 4) fun b3 b4 b5 => ldL h4 ((b.add (a.toNat * 25)).add 5) fun b6 b7 b8 => ldB h4 ((b.add (a.toNat * 25)).add 6) fun b9 => ldI h4 ((b.add (a.toNat * 25)).add 7) .i64 fun ba => ldI h4 ((b.add (a.toNat * 25)).add 8) .i64 fun bb => ldI h4 ((b.add (a.toNat * 25)).add 9) .i64 fun bc => ldS h4 ((b.add (a.toNat * 25)).add 10) fun bd => ldI h4 ((b.add (a.toNat * 25)).add 11) .i64 fun bf => ldI h4 ((b.add (a.toNat * 25)).add 12) .i64 fun bg => ldL h4 ((b.add (a.toNat * 25)).add 13) fun bh bi bj => ldL h4 ((b.add (a.toNat * 25)).add 14) fun bk bl bm => ldL h4 ((b.add (a.toNat * 25)).add 15) fun bn bo bp => ldL h4 ((b.add (a.toNat * 25)).add 16) fun bq br bt => ldI h4 ((b.add (a.toNat * 25)).add 17) .i64 fun bu => ldI h4 ((b.add (a.toNat * 25)).add 18) .i64 fun bv => ldI h4 ((b.add (a.toNat * 25)).add 19) .i64 fun bw => ldI h4 ((b.add (a.toNat * 25)).add 20) .i64 fun bx => ldL h4 ((b.add (a.toNat * 25)).add 21) fun bz c0 c1 => ldL h4 ((b.add (a.toNat * 25)).add 22) fun c2 c3 c4 => ldL h4 ((b.add (a.toNat * 25)).add 23) fun c5 c6 c7 => ldL h4 ((b.add (a.toNat * 25)).add 24) fun c8 c9 ca => ldI h4 f .i64 fun cb => ldB h4 (f.add 1) fun cc => ldI h4 (f.add 2) .u64 fun cd => ldI h4 (f.add 3) .u64 fun ce => ldB h4 (f.add 4) fun cf => ldI h4 (f.add 5) .u64 fun cg => ldI h4 (f.add 6) .u64 fun ch => ldI h4 (f.add 7) .i64 fun ci => ldI h4 (f.add 8) .i64 fun cj => ldI h4 (g.add 1) .i64 fun ck => aD Tryz.prog ma #[.agg #[.int .i64 av, .int .i64 aw, .slice ax ay az, .slice b0 b1 b2, .slice b3 b4 b5, .slice b6 b7 b8, .bool b9, .int .i64 ba, .int .i64 bb, .int .i64 bc, .string bd, .int .i64 bf, .int .i64 bg, .slice bh bi bj, .slice bk bl bm, .slice bn bo bp, .slice bq br bt, .int .i64 bu, .int .i64 bv, .int .i64 bw, .int .i64 bx, .slice bz c0 c1, .slice c2 c3 c4, .slice c5 c6 c7, .slice c8 c9 ca], .agg #[.int .i64 cb, .bool cc, .int .u64 cd, .int .u64 ce, .bool cf, .int .u64 cg, .int .u64 ch, .int .i64 ci, .int .i64 cj], .int .i64 ck] h4 fun v h5 => ∃ j, v = .bool j ∧ if (!j) = true then (Q (.bool false) h5) else (ldI h5 c .i64 fun cl => ldI h5 (c.add 1) .i64 fun cm => ldL h5 (c.add 2) fun cn co cp => ldL h5 (c.add 3) fun cq cr cs => ldL h5 (c.add 4) fun ct cu cv => ldL h5 (c.add 5) fun cw cx cy => ldB h5 (c.add 6) fun cz => ldI h5 (c.add 7) .i64 fun d0 => ldI h5 (c.add 8) .i64 fun d1 => ldI h5 (c.add 9) .i64 fun d2 => ldS h5 (c.add 10) fun d3 => ldI h5 (c.add 11) .i64 fun d4 => ldI h5 (c.add 12) .i64 fun d5 => ldL h5 (c.add 13) fun d6 d7 d8 => ldL h5 (c.add 14) fun d9 da db => ldL h5 (c.add 15) fun dc dd de => ldL h5 (c.add 16) fun df dg dh => ldI h5 (c.add 17) .i64 fun di => ldI h5 (c.add 18) .i64 fun dj => ldI h5 (c.add 19) .i64 fun dk => ldI h5 (c.add 20) .i64 fun dl => aD Tryz.prog pb #[.agg #[.int .i64 cl, .int .i64 cm, .slice cn co cp, .slice cq cr cs, .slice ct cu cv, .slice cw cx cy, .bool cz, .int .i64 d0, .int .i64 d1, .int .i64 d2, .string d3, .int .i64 d4, .int .i64 d5, .slice d6 d7 d8, .slice d9 da db, .slice dc dd de, .slice df dg dh, .int .i64 di, .int .i64 dj, .int .i64 dk, .int .i64 dl]] h5 fun v h6 => ∃ k l m, v = .tuple #[.agg #[.string k, .bool l], .bool m] ∧ alV h6 (.cells #[.string (⟨#[]⟩ : ByteArray), .bool false] bE) fun n h7 => stN h7 n [.string k, .bool l] 0 fun h8 => if (!m) = true then (Q (.bool true) h8) else (ldL h8 (c.add 13) fun dm dn dp => ldS h8 (g.add 3) fun dq => aD Tryz.prog ue #[.slice dm dn dp, .string dq] h8 fun v h9 => ∃ o, v = .string o ∧ aH (fun (s : Int) h Kn => pA n o Q s h Kn) 0 h9)))))
set_option maxRecDepth 100000 in
theorem Ai (b c d f g i j k l m n o p q r : _) {Q : QT} {h : aB} (hk : u5 b c d f g i j k l m n o p q r Q h) : aD Tryz.prog pu #[.pointer b, .int .i64 c, .agg #[.int .i64 d, .bool f, .int .u64 g, .int .u64 i, .bool j, .int .u64 k, .int .u64 l, .int .i64 m, .int .i64 n], .agg #[.int .i64 o, .int .i64 p, .int .i64 q, .string r]] h Q :=
 aS follows Tryz.func52 (Tryz.call52 _) rfl rfl [] [(20, fun e h => dA (e 10) fun t => dS (e 12) fun u => dI .i64 (e 13) fun a => aH (fun (s : Int) h Kn => pA t u Q s h Kn) a h)]
 trivial
 ⟨⟨by kernel_rfl, fun e h he hk => by
 have F := Ag.nil (e := e)
 have ⟨t, F, hk⟩ := eA F hk
 have ⟨u, F, hk⟩ := eS F hk
 have ⟨a, F, hk⟩ := eI F hk
 exact bT (s0 := a) follows (fun _ h => by cases h) he F (fun s => [(13, .int .i64 s)]) (by kernel_rfl) (F.take 1) hk (fun Kn1 e h => dI .i64 (e 13) fun a => Kn1 a h) (fun Kn1 e h hk => by
  have F := Ag.nil (e := e)
  have ⟨a, F, hk⟩ := eI F hk
  exact ⟨a, F, hk⟩)
  (fun Kn1 => []) (fun Kn1 => [])
  (fun Kn1 => trivial)
  (fun Kn1 => trivial) (fun e s h Kn1 => by as_aux_lemma => kernel_rfl)⟩, trivial⟩ (by as_aux_lemma => kernel_rfl) hk
def r6 (c : Int) (d : ByteArray) (Q : QT) (h : aB) : Prop :=
 aD Tryz.prog uM #[.int .i64 c] h fun v h1 => ∃ a, v = a ∧ my Tryz.prog a #[.string d] h1 fun v h2 => ∃ b, v = .string b ∧ Q (.string b) h2
set_option maxRecDepth 100000 in
theorem yH (a b : _) {Q : QT} {h : aB} (hk : r6 a b Q h) : aD Tryz.prog mS #[.int .i64 a, .string b] h Q :=
 aS follows Tryz.func54 (Tryz.call54 _) rfl rfl [] []
 trivial
 trivial (by as_aux_lemma => kernel_rfl) hk
def xr (n o : Int) (p : Option Addr) (q r : Nat) (s : Option Addr) (t u : Nat) (w : Option Addr) (x y : Nat) (z : Option Addr) (A B : Nat) (C : Bool) (D G I : Int) (J : ByteArray) (L M : Int) (N : Option Addr) (O P : Nat) (R : Option Addr) (S U : Nat) (V : Option Addr) (W X : Nat) (Y : Option Addr) (Z a0 : Nat) (a1 a2 a3 a4 : Int) (Q : QT) (h : aB) : Prop :=
 alV h (.cells #[.int .i64 n, .int .i64 o, .slice p q r, .slice s t u, .slice w x y, .slice z A B, .bool C, .int .i64 D, .int .i64 G, .int .i64 I, .string J, .int .i64 L, .int .i64 M, .slice N O P, .slice R S U, .slice V W X, .slice Y Z a0, .int .i64 a1, .int .i64 a2, .int .i64 a3, .int .i64 a4] cK) fun a h1 => ldI h1 a .i64 fun a5 => if (decide (a5 ≥ 1)) = true then (ldI h1 a .i64 fun a6 => if (decide (a6 ≤ 4)) = true then (ldI h1 (a.add 1) .i64 fun a7 => if (a7 == 6) = true then (ldI h1 (a.add 7) .i64 fun b => if (decide (b ≥ 1)) = true then (ldI h1 (a.add 7) .i64 fun c => if (decide (c < 4294967296)) = true then (ldI h1 (a.add 8) .i64 fun d => if (decide (d ≥ 1)) = true then (ldI h1 (a.add 8) .i64 fun f => if (decide (f ≤ 65535)) = true then (ldI h1 (a.add 9) .i64 fun g => if (decide (g ≥ 1)) = true then (ldI h1 (a.add 9) .i64 fun i => if (decide (i ≤ 4)) = true then (ldI h1 (a.add 11) .i64 fun j => if (decide (j ≥ 0)) = true then (ldI h1 (a.add 11) .i64 fun k => if (decide (k ≤ 2)) = true then (ldI h1 (a.add 12) .i64 fun l => if (decide (l ≥ 1)) = true then (ldI h1 (a.add 12) .i64 fun m => Q (.bool (decide (m ≤ 18))) h1) else (Q (.bool false) h1)) else (Q (.bool false) h1)) else (Q (.bool false) h1)) else (Q (.bool false) h1)) else (Q (.bool false) h1)) else (Q (.bool false) h1)) else (Q (.bool false) h1)) else (Q (.bool false) h1)) else (Q (.bool false) h1)) else (ldI h1 (a.add 1) .i64 fun a8 => if (a8 == 17) = true then (ldI h1 (a.add 7) .i64 fun b => if (decide (b ≥ 1)) = true then (ldI h1 (a.add 7) .i64 fun c => if (decide (c < 4294967296)) = true then (ldI h1 (a.add 8) .i64 fun d => if (decide (d ≥ 1)) = true then (ldI h1 (a.add 8) .i64 fun f => if (decide (f ≤ 65535)) = true then (ldI h1 (a.add 9) .i64 fun g => if (decide (g ≥ 1)) = true then (ldI h1 (a.add 9) .i64 fun i => if (decide (i ≤ 4)) = true then (ldI h1 (a.add 11) .i64 fun j => if (decide (j ≥ 0)) = true then (ldI h1 (a.add 11) .i64 fun k => if (decide (k ≤ 2)) = true then (ldI h1 (a.add 12) .i64 fun l => if (decide (l ≥ 1)) = true then (ldI h1 (a.add 12) .i64 fun m => Q (.bool (decide (m ≤ 18))) h1) else (Q (.bool false) h1)) else (Q (.bool false) h1)) else (Q (.bool false) h1)) else (Q (.bool false) h1)) else (Q (.bool false) h1)) else (Q (.bool false) h1)) else (Q (.bool false) h1)) else (Q (.bool false) h1)) else (Q (.bool false) h1)) else (Q (.bool false) h1))) else (Q (.bool false) h1)) else (Q (.bool false) h1)
set_option maxRecDepth 100000 in
theorem Ce (a b c d f g i j k l m n o p q r s t u w x y z A B C D G I J L M N O P R S : _) {Q : QT} {h : aB} (hk : xr a b c d f g i j k l m n o p q r s t u w x y z A B C D G I J L M N O P R S Q h) : aD Tryz.prog rA #[.agg #[.int .i64 a, .int .i64 b, .slice c d f, .slice g i j, .slice k l m, .slice n o p, .bool q, .int .i64 r, .int .i64 s, .int .i64 t, .string u, .int .i64 w, .int .i64 x, .slice y z A, .slice B C D, .slice G I J, .slice L M N, .int .i64 O, .int .i64 P, .int .i64 R, .int .i64 S]] h Q :=
 aS follows Tryz.func55 (Tryz.call55 _) rfl rfl [] []
 trivial
 trivial (by as_aux_lemma => kernel_rfl) hk
def w8 (b c : Int) (d : Option Addr) (f g : Nat) (i : Option Addr) (j k : Nat) (l : Option Addr) (m n : Nat) (o : Option Addr) (p q : Nat) (r : Bool) (s t u : Int) (w : ByteArray) (x y : Int) (z : Option Addr) (A B : Nat) (C : Option Addr) (D G : Nat) (I : Option Addr) (J L : Nat) (M : Option Addr) (N O : Nat) (P R S U : Int) (Q : QT) (h : aB) : Prop :=
 alV h (.cells #[.int .i64 b, .int .i64 c, .slice d f g, .slice i j k, .slice l m n, .slice o p q, .bool r, .int .i64 s, .int .i64 t, .int .i64 u, .string w, .int .i64 x, .int .i64 y, .slice z A B, .slice C D G, .slice I J L, .slice M N O, .int .i64 P, .int .i64 R, .int .i64 S, .int .i64 U] cK) fun a h1 => ldI h1 (a.add 1) .i64 fun V => if (V == 6) = true then (ldI h1 (a.add 12) .i64 fun W => Q (.bool (W != 2)) h1) else (ldI h1 (a.add 12) .i64 fun X => if (X == 2) = true then (Q (.bool true) h1) else (ldI h1 (a.add 12) .i64 fun Y => if (Y == 8) = true then (Q (.bool true) h1) else (ldI h1 (a.add 12) .i64 fun Z => if (Z == 9) = true then (Q (.bool true) h1) else (ldI h1 (a.add 12) .i64 fun a0 => Q (.bool (a0 == 18)) h1))))
set_option maxRecDepth 100000 in
theorem Cf (a b c d f g i j k l m n o p q r s t u w x y z A B C D G I J L M N O P R S : _) {Q : QT} {h : aB} (hk : w8 a b c d f g i j k l m n o p q r s t u w x y z A B C D G I J L M N O P R S Q h) : aD Tryz.prog rk #[.agg #[.int .i64 a, .int .i64 b, .slice c d f, .slice g i j, .slice k l m, .slice n o p, .bool q, .int .i64 r, .int .i64 s, .int .i64 t, .string u, .int .i64 w, .int .i64 x, .slice y z A, .slice B C D, .slice G I J, .slice L M N, .int .i64 O, .int .i64 P, .int .i64 R, .int .i64 S]] h Q :=
 aS follows Tryz.func56 (Tryz.call56 _) rfl rfl [] []
 trivial
 trivial (by as_aux_lemma => kernel_rfl) hk
def xa (b c : Int) (d : Option Addr) (f g : Nat) (i : Option Addr) (j k : Nat) (l : Option Addr) (m n : Nat) (o : Option Addr) (p q : Nat) (r : Bool) (s t u : Int) (w : ByteArray) (x y : Int) (z : Option Addr) (A B : Nat) (C : Option Addr) (D G : Nat) (I : Option Addr) (J L : Nat) (M : Option Addr) (N O : Nat) (P R S U : Int) (Q : QT) (h : aB) : Prop :=
 alV h (.cells #[.int .i64 b, .int .i64 c, .slice d f g, .slice i j k, .slice l m n, .slice o p q, .bool r, .int .i64 s, .int .i64 t, .int .i64 u, .string w, .int .i64 x, .int .i64 y, .slice z A B, .slice C D G, .slice I J L, .slice M N O, .int .i64 P, .int .i64 R, .int .i64 S, .int .i64 U] cK) fun a h1 => ldS h1 (a.add 10) fun V => if (decide (((V.size : Nat) : Int) ≤ 128)) = true then (ldL h1 (a.add 13) fun a4 W a5 => if (decide (((W : Nat) : Int) ≤ 4)) = true then (ldL h1 (a.add 14) fun a6 X a7 => if (decide (((X : Nat) : Int) ≤ 8)) = true then (ldL h1 (a.add 15) fun a8 Y a9 => if (decide (((Y : Nat) : Int) ≤ 8)) = true then (ldL h1 (a.add 16) fun aa Z ab => if (decide (((Z : Nat) : Int) ≤ 8)) = true then (ldL h1 (a.add 2) fun ac a0 ad => if (decide (((a0 : Nat) : Int) ≤ 64)) = true then (ldL h1 (a.add 3) fun ae a1 af => if (decide (((a1 : Nat) : Int) ≤ 64)) = true then (ldL h1 (a.add 4) fun ag a2 ah => if (decide (((a2 : Nat) : Int) ≤ 64)) = true then (ldL h1 (a.add 5) fun ai a3 aj => Q (.bool (decide (((a3 : Nat) : Int) ≤ 64))) h1) else (Q (.bool false) h1)) else (Q (.bool false) h1)) else (Q (.bool false) h1)) else (Q (.bool false) h1)) else (Q (.bool false) h1)) else (Q (.bool false) h1)) else (Q (.bool false) h1)) else (Q (.bool false) h1)
set_option maxRecDepth 100000 in
theorem Cc (a b c d f g i j k l m n o p q r s t u w x y z A B C D G I J L M N O P R S : _) {Q : QT} {h : aB} (hk : xa a b c d f g i j k l m n o p q r s t u w x y z A B C D G I J L M N O P R S Q h) : aD Tryz.prog rb #[.agg #[.int .i64 a, .int .i64 b, .slice c d f, .slice g i j, .slice k l m, .slice n o p, .bool q, .int .i64 r, .int .i64 s, .int .i64 t, .string u, .int .i64 w, .int .i64 x, .slice y z A, .slice B C D, .slice G I J, .slice L M N, .int .i64 O, .int .i64 P, .int .i64 R, .int .i64 S]] h Q :=
 aS follows Tryz.func57 (Tryz.call57 _) rfl rfl [] []
 trivial
 trivial (by as_aux_lemma => kernel_rfl) hk
def mP (c : Option Addr) (b k : Nat) (Q : QT) (a : Int) (h : aB) (Kn1 : Int → aB → Prop) : Prop :=
 if (decide (a < ((b : Nat) : Int))) = true then (bO a b (nn c fun f => ldS h ((f.add (a.toNat * 6)).add 1) fun g => if (!(g.toList == (⟨#[]⟩ : ByteArray).toList)) = true then (bO a b (nn c fun i => ldS h ((i.add (a.toNat * 6)).add 1) fun j => aD Tryz.prog kC #[.string j] h fun v h1 => ∃ d, v = .bool d ∧ if (!d) = true then (Q (.bool false) h1) else (Kn1 (wrap .i64 (a + 1)) h1))) else (Kn1 (wrap .i64 (a + 1)) h))) else (Q (.bool true) h)
def r5 (a : Option Addr) (b c : Nat) (Q : QT) (h : aB) : Prop :=
 aH (fun (s : Int) h Kn => mP a b c Q s h Kn) 0 h
set_option maxRecDepth 100000 in
theorem yj (b c d : _) {Q : QT} {h : aB} (hk : r5 b c d Q h) : aD Tryz.prog kv #[.slice b c d] h Q :=
 aS follows Tryz.func58 (Tryz.call58 _) rfl rfl [] [(6, fun e h => dL (e 0) fun b c d => dI .i64 (e 3) fun a => aH (fun (s : Int) h Kn => mP b c d Q s h Kn) a h)]
 trivial
 ⟨⟨by kernel_rfl, fun e h he hk => by
 have F := Ag.nil (e := e)
 have ⟨b, c, d, F, hk⟩ := eL F hk
 have ⟨a, F, hk⟩ := eI F hk
 exact bT (s0 := a) follows (fun _ h => by cases h) he F (fun s => [(3, .int .i64 s)]) (by kernel_rfl) (F.take 1) hk (fun Kn1 e h => dI .i64 (e 3) fun a => Kn1 a h) (fun Kn1 e h hk => by
  have F := Ag.nil (e := e)
  have ⟨a, F, hk⟩ := eI F hk
  exact ⟨a, F, hk⟩)
  (fun Kn1 => []) (fun Kn1 => [])
  (fun Kn1 => trivial)
  (fun Kn1 => trivial) (fun e s h Kn1 => by as_aux_lemma => kernel_rfl)⟩, trivial⟩ (by as_aux_lemma => kernel_rfl) hk
def mN (c : Option Addr) (b k : Nat) (Q : QT) (a : Int) (h : aB) (Kn1 : Int → aB → Prop) : Prop :=
 if (decide (a < ((b : Nat) : Int))) = true then (bO a b (nn c fun f => ldS h ((f.add (a.toNat * 4)).add 1) fun g => if (!(g.toList == (⟨#[]⟩ : ByteArray).toList)) = true then (bO a b (nn c fun i => ldS h ((i.add (a.toNat * 4)).add 1) fun j => aD Tryz.prog kC #[.string j] h fun v h1 => ∃ d, v = .bool d ∧ if (!d) = true then (Q (.bool false) h1) else (Kn1 (wrap .i64 (a + 1)) h1))) else (Kn1 (wrap .i64 (a + 1)) h))) else (Q (.bool true) h)
def sf (a : Option Addr) (b c : Nat) (Q : QT) (h : aB) : Prop :=
 aH (fun (s : Int) h Kn => mN a b c Q s h Kn) 0 h
set_option maxRecDepth 100000 in
theorem yw (b c d : _) {Q : QT} {h : aB} (hk : sf b c d Q h) : aD Tryz.prog j7 #[.slice b c d] h Q :=
 aS follows Tryz.func59 (Tryz.call59 _) rfl rfl [] [(6, fun e h => dL (e 0) fun b c d => dI .i64 (e 3) fun a => aH (fun (s : Int) h Kn => mN b c d Q s h Kn) a h)]
 trivial
 ⟨⟨by kernel_rfl, fun e h he hk => by
 have F := Ag.nil (e := e)
 have ⟨b, c, d, F, hk⟩ := eL F hk
 have ⟨a, F, hk⟩ := eI F hk
 exact bT (s0 := a) follows (fun _ h => by cases h) he F (fun s => [(3, .int .i64 s)]) (by kernel_rfl) (F.take 1) hk (fun Kn1 e h => dI .i64 (e 3) fun a => Kn1 a h) (fun Kn1 e h hk => by
  have F := Ag.nil (e := e)
  have ⟨a, F, hk⟩ := eI F hk
  exact ⟨a, F, hk⟩)
  (fun Kn1 => []) (fun Kn1 => [])
  (fun Kn1 => trivial)
  (fun Kn1 => trivial) (fun e s h Kn1 => by as_aux_lemma => kernel_rfl)⟩, trivial⟩ (by as_aux_lemma => kernel_rfl) hk
def mL (d : Option Addr) (b i : Nat) (Q : QT) (a : Int) (h : aB) (Kn1 : Int → aB → Prop) : Prop :=
 if (decide (a < ((b : Nat) : Int))) = true then (bO a b (nn d fun f => ldS h ((f.add (a.toNat * 2)).add 1) fun g => aD Tryz.prog kC #[.string g] h fun v h1 => ∃ c, v = .bool c ∧ if (!c) = true then (Q (.bool false) h1) else (Kn1 (wrap .i64 (a + 1)) h1))) else (Q (.bool true) h)
def r9 (a : Option Addr) (b c : Nat) (Q : QT) (h : aB) : Prop :=
 aH (fun (s : Int) h Kn => mL a b c Q s h Kn) 0 h
set_option maxRecDepth 100000 in
theorem yu (b c d : _) {Q : QT} {h : aB} (hk : r9 b c d Q h) : aD Tryz.prog mK #[.slice b c d] h Q :=
 aS follows Tryz.func60 (Tryz.call60 _) rfl rfl [] [(6, fun e h => dL (e 0) fun b c d => dI .i64 (e 3) fun a => aH (fun (s : Int) h Kn => mL b c d Q s h Kn) a h)]
 trivial
 ⟨⟨by kernel_rfl, fun e h he hk => by
 have F := Ag.nil (e := e)
 have ⟨b, c, d, F, hk⟩ := eL F hk
 have ⟨a, F, hk⟩ := eI F hk
 exact bT (s0 := a) follows (fun _ h => by cases h) he F (fun s => [(3, .int .i64 s)]) (by kernel_rfl) (F.take 1) hk (fun Kn1 e h => dI .i64 (e 3) fun a => Kn1 a h) (fun Kn1 e h hk => by
  have F := Ag.nil (e := e)
  have ⟨a, F, hk⟩ := eI F hk
  exact ⟨a, F, hk⟩)
  (fun Kn1 => []) (fun Kn1 => [])
  (fun Kn1 => trivial)
  (fun Kn1 => trivial) (fun e s h Kn1 => by as_aux_lemma => kernel_rfl)⟩, trivial⟩ (by as_aux_lemma => kernel_rfl) hk
def og (g : Option Addr) (d w : Nat) (Q : QT) (a : Int) (h : aB) (Kn1 : Int → aB → Prop) : Prop :=
 if (decide (a < ((d : Nat) : Int))) = true then (bO a d (nn g fun b => ldS h (b.add (a.toNat * 7)) fun i => ldB h ((b.add (a.toNat * 7)).add 1) fun j => ldB h ((b.add (a.toNat * 7)).add 2) fun k => ldB h ((b.add (a.toNat * 7)).add 3) fun l => ldI h ((b.add (a.toNat * 7)).add 4) .i64 fun m => ldI h ((b.add (a.toNat * 7)).add 5) .i64 fun n => ldB h ((b.add (a.toNat * 7)).add 6) fun o => alV h (.cells #[.string (⟨#[]⟩ : ByteArray), .bool false, .bool false, .bool false, .int .i64 0, .int .i64 0, .bool false] ei) fun c h1 => stN h1 c [.string i, .bool j, .bool k, .bool l, .int .i64 m, .int .i64 n, .bool o] 0 fun h2 => ldS h2 c fun p => if (decide (((p.size : Nat) : Int) < 1)) = true then (Q (.int .i64 3) h2) else (ldS h2 c fun q => if (decide (((q.size : Nat) : Int) > 64)) = true then (Q (.int .i64 3) h2) else (ldI h2 (c.add 4) .i64 fun r => ldB h2 (c.add 3) fun s => aD Tryz.prog hZ #[.int .i64 r, .bool s] h2 fun v h3 => ∃ f, v = .bool f ∧ if (!f) = true then (Q (.int .i64 4) h3) else (ldI h3 (c.add 5) .i64 fun t => if (decide (t < 0)) = true then (Q (.int .i64 4) h3) else (ldI h3 (c.add 5) .i64 fun u => if (decide (u > 1024)) = true then (Q (.int .i64 4) h3) else (Kn1 (wrap .i64 (a + 1)) h3))))))) else (Q (.int .i64 0) h)
def tM (a : Option Addr) (b c : Nat) (Q : QT) (h : aB) : Prop :=
 aH (fun (s : Int) h Kn => og a b c Q s h Kn) 0 h
set_option maxRecDepth 100000 in
theorem yT (b c d : _) {Q : QT} {h : aB} (hk : tM b c d Q h) : aD Tryz.prog nX #[.slice b c d] h Q :=
 aS follows Tryz.func61 (Tryz.call61 _) rfl rfl [] [(6, fun e h => dL (e 0) fun b c d => dI .i64 (e 3) fun a => aH (fun (s : Int) h Kn => og b c d Q s h Kn) a h)]
 trivial
 ⟨⟨by kernel_rfl, fun e h he hk => by
 have F := Ag.nil (e := e)
 have ⟨b, c, d, F, hk⟩ := eL F hk
 have ⟨a, F, hk⟩ := eI F hk
 exact bT (s0 := a) follows (fun _ h => by cases h) he F (fun s => [(3, .int .i64 s)]) (by kernel_rfl) (F.take 1) hk (fun Kn1 e h => dI .i64 (e 3) fun a => Kn1 a h) (fun Kn1 e h hk => by
  have F := Ag.nil (e := e)
  have ⟨a, F, hk⟩ := eI F hk
  exact ⟨a, F, hk⟩)
  (fun Kn1 => []) (fun Kn1 => [])
  (fun Kn1 => trivial)
  (fun Kn1 => trivial) (fun e s h Kn1 => by as_aux_lemma => kernel_rfl)⟩, trivial⟩ (by as_aux_lemma => kernel_rfl) hk
def ro (m : Option Addr) (l A : Nat) (Q : QT) (b : Int) (h : aB) (Kn1 : Int → aB → Prop) : Prop :=
 if (decide (b < ((l : Nat) : Int))) = true then (bO b l (nn m fun f => ldI h (f.add (b.toNat * 7)) .i64 fun n => ldI h ((f.add (b.toNat * 7)).add 1) .i64 fun o => ldI h ((f.add (b.toNat * 7)).add 2) .i64 fun p => ldI h ((f.add (b.toNat * 7)).add 3) .i64 fun q => ldB h ((f.add (b.toNat * 7)).add 4) fun r => ldB h ((f.add (b.toNat * 7)).add 5) fun s => ldB h ((f.add (b.toNat * 7)).add 6) fun t => alV h (.cells #[.int .i64 0, .int .i64 0, .int .i64 0, .int .i64 0, .bool false, .bool false, .bool false] uq) fun a h1 => stN h1 a [.int .i64 n, .int .i64 o, .int .i64 p, .int .i64 q, .bool r, .bool s, .bool t] 0 fun h2 => ldI h2 a .i64 fun u => if (decide (u < 1)) = true then (Q (.bool false) h2) else (ldI h2 a .i64 fun w => if (decide (w > 4)) = true then (Q (.bool false) h2) else (ldI h2 (a.add 1) .i64 fun x => if (x != 1) = true then (ldI h2 (a.add 1) .i64 fun y => if (y != 2) = true then (ldI h2 (a.add 1) .i64 fun z => if (z != 4) = true then (Q (.bool false) h2) else (ldI h2 (a.add 2) .i64 fun g => if (decide (g < 0)) = true then (Q (.bool false) h2) else (ldI h2 (a.add 2) .i64 fun i => ldI h2 (a.add 1) .i64 fun c => 0 ≤ (wrap .u64 (wrap .i64 (8 * c))) ∧ if (decide (i ≥ (wrap .i64 (1 * 2 ^ (min (Int.toNat (wrap .u64 (wrap .i64 (8 * c)))) (IntKind.bits .i64)))))) = true then (Q (.bool false) h2) else (ldI h2 (a.add 3) .i64 fun j => ldB h2 (a.add 4) fun k => aD Tryz.prog hZ #[.int .i64 j, .bool k] h2 fun v h3 => ∃ d, v = .bool d ∧ if (!d) = true then (Q (.bool false) h3) else (Kn1 (wrap .i64 (b + 1)) h3))))) else (ldI h2 (a.add 2) .i64 fun g => if (decide (g < 0)) = true then (Q (.bool false) h2) else (ldI h2 (a.add 2) .i64 fun i => ldI h2 (a.add 1) .i64 fun c => 0 ≤ (wrap .u64 (wrap .i64 (8 * c))) ∧ if (decide (i ≥ (wrap .i64 (1 * 2 ^ (min (Int.toNat (wrap .u64 (wrap .i64 (8 * c)))) (IntKind.bits .i64)))))) = true then (Q (.bool false) h2) else (ldI h2 (a.add 3) .i64 fun j => ldB h2 (a.add 4) fun k => aD Tryz.prog hZ #[.int .i64 j, .bool k] h2 fun v h4 => ∃ d, v = .bool d ∧ if (!d) = true then (Q (.bool false) h4) else (Kn1 (wrap .i64 (b + 1)) h4))))) else (ldI h2 (a.add 2) .i64 fun g => if (decide (g < 0)) = true then (Q (.bool false) h2) else (ldI h2 (a.add 2) .i64 fun i => ldI h2 (a.add 1) .i64 fun c => 0 ≤ (wrap .u64 (wrap .i64 (8 * c))) ∧ if (decide (i ≥ (wrap .i64 (1 * 2 ^ (min (Int.toNat (wrap .u64 (wrap .i64 (8 * c)))) (IntKind.bits .i64)))))) = true then (Q (.bool false) h2) else (ldI h2 (a.add 3) .i64 fun j => ldB h2 (a.add 4) fun k => aD Tryz.prog hZ #[.int .i64 j, .bool k] h2 fun v h5 => ∃ d, v = .bool d ∧ if (!d) = true then (Q (.bool false) h5) else (Kn1 (wrap .i64 (b + 1)) h5)))))))) else (Q (.bool true) h)
def wU (a : Option Addr) (b c : Nat) (Q : QT) (h : aB) : Prop :=
 aH (fun (s : Int) h Kn => ro a b c Q s h Kn) 0 h
set_option maxRecDepth 100000 in
theorem Cp (b c d : _) {Q : QT} {h : aB} (hk : wU b c d Q h) : aD Tryz.prog rf #[.slice b c d] h Q :=
 aS follows Tryz.func62 (Tryz.call62 _) rfl rfl [] [(6, fun e h => dL (e 0) fun b c d => dI .i64 (e 3) fun a => aH (fun (s : Int) h Kn => ro b c d Q s h Kn) a h)]
 trivial
 ⟨⟨by kernel_rfl, fun e h he hk => by
 have F := Ag.nil (e := e)
 have ⟨b, c, d, F, hk⟩ := eL F hk
 have ⟨a, F, hk⟩ := eI F hk
 exact bT (s0 := a) follows (fun _ h => by cases h) he F (fun s => [(3, .int .i64 s)]) (by kernel_rfl) (F.take 1) hk (fun Kn1 e h => dI .i64 (e 3) fun a => Kn1 a h) (fun Kn1 e h hk => by
  have F := Ag.nil (e := e)
  have ⟨a, F, hk⟩ := eI F hk
  exact ⟨a, F, hk⟩)
  (fun Kn1 => []) (fun Kn1 => [])
  (fun Kn1 => trivial)
  (fun Kn1 => trivial) (fun e s h Kn1 => by as_aux_lemma => kernel_rfl)⟩, trivial⟩ (by as_aux_lemma => kernel_rfl) hk
def pv (a : Addr) (Q : QT) (h : aB) : Prop :=
 ldL h (a.add 4) fun f g i => aD Tryz.prog nH #[.slice f g i] h fun v h2 => ∃ b, v = .bool b ∧ if b = true then (ldL h2 (a.add 5) fun j k l => aD Tryz.prog nH #[.slice j k l] h2 fun v h3 => ∃ c, v = .bool c ∧ if c = true then (ldI h3 (a.add 17) .i64 fun m => ldI h3 (a.add 18) .i64 fun n => ldI h3 (a.add 19) .i64 fun o => ldI h3 (a.add 20) .i64 fun p => aD Tryz.prog mV #[.agg #[.int .i64 m, .int .i64 n, .int .i64 o, .int .i64 p]] h3 fun v h4 => ∃ d, v = .bool d ∧ Q (.bool d) h4) else (Q (.bool false) h3)) else (Q (.bool false) h2)
def pi (b : Addr) (Q : QT) (a : Int) (h : aB) (Kn1 : Int → aB → Prop) : Prop :=
 ldL h (b.add 16) fun n c o => if (decide (a < ((c : Nat) : Int))) = true then (ldL h (b.add 16) fun d f p => bO a f (nn d fun g => ldI h (g.add (a.toNat * 2)) .i64 fun i => if (decide (i < 1)) = true then (Q (.bool false) h) else (ldL h (b.add 16) fun j k q => bO a k (nn j fun l => ldI h (l.add (a.toNat * 2)) .i64 fun m => if (decide (m > 4)) = true then (Q (.bool false) h) else (Kn1 (wrap .i64 (a + 1)) h))))) else (pv b Q h)
def uX (a b : Int) (c : Option Addr) (d f : Nat) (g : Option Addr) (i j : Nat) (k : Option Addr) (l m : Nat) (n : Option Addr) (o p : Nat) (q : Bool) (r t u : Int) (w : ByteArray) (x y : Int) (z : Option Addr) (A B : Nat) (C : Option Addr) (D G : Nat) (I : Option Addr) (J L : Nat) (M : Option Addr) (N O : Nat) (P R S U : Int) (Q : QT) (h : aB) : Prop :=
 alV h (.cells #[.int .i64 a, .int .i64 b, .slice c d f, .slice g i j, .slice k l m, .slice n o p, .bool q, .int .i64 r, .int .i64 t, .int .i64 u, .string w, .int .i64 x, .int .i64 y, .slice z A B, .slice C D G, .slice I J L, .slice M N O, .int .i64 P, .int .i64 R, .int .i64 S, .int .i64 U] cK) fun V h1 => aH (fun (s : Int) h Kn => pi V Q s h Kn) 0 h1
set_option maxRecDepth 100000 in
theorem Am (c d f g i j k l m n o p q r t u w x y z A B C D G I J L M N O P R S U V W : _) {Q : QT} {h : aB} (hk : uX c d f g i j k l m n o p q r t u w x y z A B C D G I J L M N O P R S U V W Q h) : aD Tryz.prog pw #[.agg #[.int .i64 c, .int .i64 d, .slice f g i, .slice j k l, .slice m n o, .slice p q r, .bool t, .int .i64 u, .int .i64 w, .int .i64 x, .string y, .int .i64 z, .int .i64 A, .slice B C D, .slice G I J, .slice L M N, .slice O P R, .int .i64 S, .int .i64 U, .int .i64 V, .int .i64 W]] h Q :=
 aS follows Tryz.func63 (Tryz.call63 _) rfl rfl [(14, fun e h => dA (e 1) fun b => pv b Q h)] [(6, fun e h => dA (e 1) fun b => dI .i64 (e 3) fun a => aH (fun (s : Int) h Kn => pi b Q s h Kn) a h)]
 ⟨fun e h _ hk => by
 have F := Ag.nil (e := e)
 have ⟨b, F, hk⟩ := eA F hk
 exact fX F (by as_aux_lemma => kernel_rfl) hk, trivial⟩
 ⟨⟨by kernel_rfl, fun e h he hk => by
 have F := Ag.nil (e := e)
 have ⟨b, F, hk⟩ := eA F hk
 have ⟨a, F, hk⟩ := eI F hk
 exact bT (s0 := a) follows (fun _ h => by cases h) he F (fun s => [(3, .int .i64 s)]) (by kernel_rfl) (F.take 1) hk (fun Kn1 e h => dI .i64 (e 3) fun a => Kn1 a h) (fun Kn1 e h hk => by
  have F := Ag.nil (e := e)
  have ⟨a, F, hk⟩ := eI F hk
  exact ⟨a, F, hk⟩)
  (fun Kn1 => []) (fun Kn1 => [])
  (fun Kn1 => trivial)
  (fun Kn1 => trivial) (fun e s h Kn1 => by as_aux_lemma => kernel_rfl)⟩, trivial⟩ (by as_aux_lemma => kernel_rfl) hk
def ot (d : Option Addr) (c n : Nat) (Q : QT) (a : Int) (h : aB) (Kn1 : Int → aB → Prop) : Prop :=
 if (decide (a < ((c : Nat) : Int))) = true then (bO a c (nn d fun g => ldS h ((g.add (a.toNat * 6)).add 1) fun i => if (i.toList == (⟨#[]⟩ : ByteArray).toList) = true then (bO a c (nn d fun b => ldB h ((b.add (a.toNat * 6)).add 2) fun j => ldI h ((b.add (a.toNat * 6)).add 3) .u64 fun k => ldI h ((b.add (a.toNat * 6)).add 4) .u64 fun l => ldI h ((b.add (a.toNat * 6)).add 5) .i64 fun m => aD Tryz.prog ly #[.agg #[.bool j, .int .u64 k, .int .u64 l, .int .i64 m]] h fun v h1 => ∃ f, v = .bool f ∧ if (!f) = true then (Q (.bool false) h1) else (Kn1 (wrap .i64 (a + 1)) h1))) else (Kn1 (wrap .i64 (a + 1)) h))) else (Q (.bool true) h)
def sX (a : Option Addr) (b c : Nat) (Q : QT) (h : aB) : Prop :=
 aH (fun (s : Int) h Kn => ot a b c Q s h Kn) 0 h
set_option maxRecDepth 100000 in
theorem zb (b c d : _) {Q : QT} {h : aB} (hk : sX b c d Q h) : aD Tryz.prog lk #[.slice b c d] h Q :=
 aS follows Tryz.func64 (Tryz.call64 _) rfl rfl [] [(6, fun e h => dL (e 0) fun b c d => dI .i64 (e 3) fun a => aH (fun (s : Int) h Kn => ot b c d Q s h Kn) a h)]
 trivial
 ⟨⟨by kernel_rfl, fun e h he hk => by
 have F := Ag.nil (e := e)
 have ⟨b, c, d, F, hk⟩ := eL F hk
 have ⟨a, F, hk⟩ := eI F hk
 exact bT (s0 := a) follows (fun _ h => by cases h) he F (fun s => [(3, .int .i64 s)]) (by kernel_rfl) (F.take 1) hk (fun Kn1 e h => dI .i64 (e 3) fun a => Kn1 a h) (fun Kn1 e h hk => by
  have F := Ag.nil (e := e)
  have ⟨a, F, hk⟩ := eI F hk
  exact ⟨a, F, hk⟩)
  (fun Kn1 => []) (fun Kn1 => [])
  (fun Kn1 => trivial)
  (fun Kn1 => trivial) (fun e s h Kn1 => by as_aux_lemma => kernel_rfl)⟩, trivial⟩ (by as_aux_lemma => kernel_rfl) hk
def sI (d : Option Addr) (b k : Nat) (Q : QT) (c a : Int) (h : aB) (Kn1 : Int × Int → aB → Prop) : Prop :=
 if (decide (a < ((b : Nat) : Int))) = true then (bO a b (nn d fun f => ldB h ((f.add (a.toNat * 7)).add 6) fun g => if g = true then (bO a b (nn d fun i => ldB h ((i.add (a.toNat * 7)).add 2) fun j => if j = true then (Q (.bool false) h) else (Kn1 (wrap .i64 (c + 1), wrap .i64 (a + 1)) h))) else (Kn1 (c, wrap .i64 (a + 1)) h))) else (Q (.bool (decide (c ≤ 1))) h)
def xH (a : Option Addr) (b c : Nat) (Q : QT) (h : aB) : Prop :=
 aH (fun (s : Int × Int) h Kn => sI a b c Q s.1 s.2 h Kn) (0, 0) h
set_option maxRecDepth 100000 in
theorem D7 (c d f : _) {Q : QT} {h : aB} (hk : xH c d f Q h) : aD Tryz.prog sE #[.slice c d f] h Q :=
 aS follows Tryz.func65 (Tryz.call65 _) rfl rfl [] [(8, fun e h => dL (e 0) fun c d f => dI .i64 (e 3) fun a => dI .i64 (e 4) fun b => aH (fun (s : Int × Int) h Kn => sI c d f Q s.1 s.2 h Kn) (a, b) h)]
 trivial
 ⟨⟨by kernel_rfl, fun e h he hk => by
 have F := Ag.nil (e := e)
 have ⟨c, d, f, F, hk⟩ := eL F hk
 have ⟨a, F, hk⟩ := eI F hk
 have ⟨b, F, hk⟩ := eI F hk
 exact bT (s0 := (a, b)) follows (fun _ h => by cases h) he F (fun s => [(4, .int .i64 s.2), (3, .int .i64 s.1)]) (by kernel_rfl) (F.take 2) hk (fun Kn1 e h => dI .i64 (e 3) fun a => dI .i64 (e 4) fun b => Kn1 (a, b) h) (fun Kn1 e h hk => by
  have F := Ag.nil (e := e)
  have ⟨a, F, hk⟩ := eI F hk
  have ⟨b, F, hk⟩ := eI F hk
  exact ⟨(a, b), F, hk⟩)
  (fun Kn1 => []) (fun Kn1 => [])
  (fun Kn1 => trivial)
  (fun Kn1 => trivial) (fun e s h Kn1 => by as_aux_lemma => kernel_rfl)⟩, trivial⟩ (by as_aux_lemma => kernel_rfl) hk
def xU (f g : Int) (i : Option Addr) (j k : Nat) (l : Option Addr) (m n : Nat) (o : Option Addr) (p q : Nat) (r : Option Addr) (s t : Nat) (u : Bool) (w x y : Int) (z : ByteArray) (A B : Int) (C : Option Addr) (D G : Nat) (I : Option Addr) (J L : Nat) (M : Option Addr) (N O : Nat) (P : Option Addr) (R S : Nat) (U V W X : Int) (Q : QT) (h : aB) : Prop :=
 alV h (.cells #[.int .i64 f, .int .i64 g, .slice i j k, .slice l m n, .slice o p q, .slice r s t, .bool u, .int .i64 w, .int .i64 x, .int .i64 y, .string z, .int .i64 A, .int .i64 B, .slice C D G, .slice I J L, .slice M N O, .slice P R S, .int .i64 U, .int .i64 V, .int .i64 W, .int .i64 X] cK) fun b h1 => alV h1 (.cells #[.int .i64 0, .int .i64 0, .slice none 0 0, .slice none 0 0, .slice none 0 0, .slice none 0 0, .bool false, .int .i64 0, .int .i64 0, .int .i64 0, .string (⟨#[]⟩ : ByteArray), .int .i64 0, .int .i64 0, .slice none 0 0, .slice none 0 0, .slice none 0 0, .slice none 0 0, .int .i64 0, .int .i64 0, .int .i64 0, .int .i64 0, .slice none 0 0, .slice none 0 0, .slice none 0 0, .slice none 0 0] cA) fun a h2 => alV h2 (.cells #[.bool false, .int .u64 0, .int .u64 0, .bool false, .int .u64 0, .int .u64 4294967295, .bool true, .int .u64 0, .int .u64 0, .bool true, .int .u64 18446744073709551615, .int .u64 18446744073709551615] lM) fun c h3 => alV h3 (.cells #[.int .i64 0, .int .i64 65535] rH) fun d h4 => ldI h4 b .i64 fun Y => ldI h4 (b.add 1) .i64 fun Z => ldL h4 (b.add 2) fun a0 a1 a2 => ldL h4 (b.add 3) fun a3 a4 a5 => ldL h4 (b.add 4) fun a6 a7 a8 => ldL h4 (b.add 5) fun a9 aa ab => ldB h4 (b.add 6) fun ac => ldI h4 (b.add 7) .i64 fun ad => ldI h4 (b.add 8) .i64 fun ae => ldI h4 (b.add 9) .i64 fun af => ldS h4 (b.add 10) fun ag => ldI h4 (b.add 11) .i64 fun ah => ldI h4 (b.add 12) .i64 fun ai => ldL h4 (b.add 13) fun aj ak al => ldL h4 (b.add 14) fun am an ao => ldL h4 (b.add 15) fun ap aq ar => ldL h4 (b.add 16) fun au av aw => ldI h4 (b.add 17) .i64 fun ax => ldI h4 (b.add 18) .i64 fun ay => ldI h4 (b.add 19) .i64 fun az => ldI h4 (b.add 20) .i64 fun b0 => stN h4 a [.int .i64 Y, .int .i64 Z, .slice a0 a1 a2, .slice a3 a4 a5, .slice a6 a7 a8, .slice a9 aa ab, .bool ac, .int .i64 ad, .int .i64 ae, .int .i64 af, .string ag, .int .i64 ah, .int .i64 ai, .slice aj ak al, .slice am an ao, .slice ap aq ar, .slice au av aw, .int .i64 ax, .int .i64 ay, .int .i64 az, .int .i64 b0, .slice (some c) 2 2, .slice (some c) 2 2, .slice (some d) 1 1, .slice (some d) 1 1] 0 fun h5 => ldI h5 a .i64 fun b1 => ldI h5 (a.add 1) .i64 fun b2 => ldL h5 (a.add 2) fun b3 b4 b5 => ldL h5 (a.add 3) fun b6 b7 b8 => ldL h5 (a.add 4) fun b9 ba bb => ldL h5 (a.add 5) fun bc bd bf => ldB h5 (a.add 6) fun bg => ldI h5 (a.add 7) .i64 fun bh => ldI h5 (a.add 8) .i64 fun bi => ldI h5 (a.add 9) .i64 fun bj => ldS h5 (a.add 10) fun bk => ldI h5 (a.add 11) .i64 fun bl => ldI h5 (a.add 12) .i64 fun bm => ldL h5 (a.add 13) fun bn bo bp => ldL h5 (a.add 14) fun bq br bt => ldL h5 (a.add 15) fun bu bv bw => ldL h5 (a.add 16) fun bx bz c0 => ldI h5 (a.add 17) .i64 fun c1 => ldI h5 (a.add 18) .i64 fun c2 => ldI h5 (a.add 19) .i64 fun c3 => ldI h5 (a.add 20) .i64 fun c4 => ldL h5 (a.add 21) fun c5 c6 c7 => ldL h5 (a.add 22) fun c8 c9 ca => ldL h5 (a.add 23) fun cb cc cd => ldL h5 (a.add 24) fun ce cf cg => Q (.agg #[.int .i64 b1, .int .i64 b2, .slice b3 b4 b5, .slice b6 b7 b8, .slice b9 ba bb, .slice bc bd bf, .bool bg, .int .i64 bh, .int .i64 bi, .int .i64 bj, .string bk, .int .i64 bl, .int .i64 bm, .slice bn bo bp, .slice bq br bt, .slice bu bv bw, .slice bx bz c0, .int .i64 c1, .int .i64 c2, .int .i64 c3, .int .i64 c4, .slice c5 c6 c7, .slice c8 c9 ca, .slice cb cc cd, .slice ce cf cg]) h5
set_option maxRecDepth 100000 in
theorem Dq (a b c d f g i j k l m n o p q r s t u w x y z A B C D G I J L M N O P R S : _) {Q : QT} {h : aB} (hk : xU a b c d f g i j k l m n o p q r s t u w x y z A B C D G I J L M N O P R S Q h) : aD Tryz.prog sK #[.agg #[.int .i64 a, .int .i64 b, .slice c d f, .slice g i j, .slice k l m, .slice n o p, .bool q, .int .i64 r, .int .i64 s, .int .i64 t, .string u, .int .i64 w, .int .i64 x, .slice y z A, .slice B C D, .slice G I J, .slice L M N, .int .i64 O, .int .i64 P, .int .i64 R, .int .i64 S]] h Q :=
 aS follows Tryz.func66 (Tryz.call66 _) rfl rfl [] []
 trivial
 trivial (by as_aux_lemma => kernel_rfl) hk
def fQ (a : Option Addr) (f g : Nat) (Q : QT) (h : aB) : Prop :=
 if (Option.isNone a) = true then (Q (.slice none 0 0) h) else (alV h (.cells #[] rr) fun i h1 => cQ Tryz.prog .append #[lb, lb] lb #[false, false] #[.slice (some i) 0 0, .slice a f g] h1 fun v h2 => ∃ b c d, v = .slice b c d ∧ Q (.slice b c d) h2)
set_option maxRecDepth 100000 in
theorem kX (a b c : _) {Q : QT} {h : aB} (hk : fQ a b c Q h) : aD Tryz.prog cC #[.slice a b c] h Q :=
 aS follows Tryz.func67 (Tryz.call67 _) rfl rfl [] []
 trivial
 trivial (by as_aux_lemma => kernel_rfl) hk
def fN (a : Option Addr) (f g : Nat) (Q : QT) (h : aB) : Prop :=
 if (Option.isNone a) = true then (Q (.slice none 0 0) h) else (alV h (.cells #[] nj) fun i h1 => cQ Tryz.prog .append #[lg, lg] lg #[false, false] #[.slice (some i) 0 0, .slice a f g] h1 fun v h2 => ∃ b c d, v = .slice b c d ∧ Q (.slice b c d) h2)
set_option maxRecDepth 100000 in
theorem kU (a b c : _) {Q : QT} {h : aB} (hk : fN a b c Q h) : aD Tryz.prog cB #[.slice a b c] h Q :=
 aS follows Tryz.func68 (Tryz.call68 _) rfl rfl [] []
 trivial
 trivial (by as_aux_lemma => kernel_rfl) hk
def gO (a : Option Addr) (f g : Nat) (Q : QT) (h : aB) : Prop :=
 if (Option.isNone a) = true then (Q (.slice none 0 0) h) else (alV h (.cells #[] ei) fun i h1 => cQ Tryz.prog .append #[lW, lW] lW #[false, false] #[.slice (some i) 0 0, .slice a f g] h1 fun v h2 => ∃ b c d, v = .slice b c d ∧ Q (.slice b c d) h2)
set_option maxRecDepth 100000 in
theorem lG (a b c : _) {Q : QT} {h : aB} (hk : gO a b c Q h) : aD Tryz.prog cW #[.slice a b c] h Q :=
 aS follows Tryz.func69 (Tryz.call69 _) rfl rfl [] []
 trivial
 trivial (by as_aux_lemma => kernel_rfl) hk
def ji (a : Option Addr) (f g : Nat) (Q : QT) (h : aB) : Prop :=
 if (Option.isNone a) = true then (Q (.slice none 0 0) h) else (alV h (.cells #[] uq) fun i h1 => cQ Tryz.prog .append #[pI, pI] pI #[false, false] #[.slice (some i) 0 0, .slice a f g] h1 fun v h2 => ∃ b c d, v = .slice b c d ∧ Q (.slice b c d) h2)
set_option maxRecDepth 100000 in
theorem ni (a b c : _) {Q : QT} {h : aB} (hk : ji a b c Q h) : aD Tryz.prog eN #[.slice a b c] h Q :=
 aS follows Tryz.func70 (Tryz.call70 _) rfl rfl [] []
 trivial
 trivial (by as_aux_lemma => kernel_rfl) hk
def ij (a : Option Addr) (f g : Nat) (Q : QT) (h : aB) : Prop :=
 if (Option.isNone a) = true then (Q (.slice none 0 0) h) else (alV h (.cells #[] tY) fun i h1 => cQ Tryz.prog .append #[mG, mG] mG #[false, false] #[.slice (some i) 0 0, .slice a f g] h1 fun v h2 => ∃ b c d, v = .slice b c d ∧ Q (.slice b c d) h2)
set_option maxRecDepth 100000 in
theorem mn (a b c : _) {Q : QT} {h : aB} (hk : ij a b c Q h) : aD Tryz.prog dQ #[.slice a b c] h Q :=
 aS follows Tryz.func71 (Tryz.call71 _) rfl rfl [] []
 trivial
 trivial (by as_aux_lemma => kernel_rfl) hk
def iK (a : Option Addr) (f g : Nat) (Q : QT) (h : aB) : Prop :=
 if (Option.isNone a) = true then (Q (.slice none 0 0) h) else (alV h (.cells #[] lM) fun i h1 => cQ Tryz.prog .append #[nQ, nQ] nQ #[false, false] #[.slice (some i) 0 0, .slice a f g] h1 fun v h2 => ∃ b c d, v = .slice b c d ∧ Q (.slice b c d) h2)
set_option maxRecDepth 100000 in
theorem mT (a b c : _) {Q : QT} {h : aB} (hk : iK a b c Q h) : aD Tryz.prog cP #[.slice a b c] h Q :=
 aS follows Tryz.func72 (Tryz.call72 _) rfl rfl [] []
 trivial
 trivial (by as_aux_lemma => kernel_rfl) hk
def ja (a : Option Addr) (f g : Nat) (Q : QT) (h : aB) : Prop :=
 if (Option.isNone a) = true then (Q (.slice none 0 0) h) else (alV h (.cells #[] rH) fun i h1 => cQ Tryz.prog .append #[pF, pF] pF #[false, false] #[.slice (some i) 0 0, .slice a f g] h1 fun v h2 => ∃ b c d, v = .slice b c d ∧ Q (.slice b c d) h2)
set_option maxRecDepth 100000 in
theorem nr (a b c : _) {Q : QT} {h : aB} (hk : ja a b c Q h) : aD Tryz.prog cS #[.slice a b c] h Q :=
 aS follows Tryz.func73 (Tryz.call73 _) rfl rfl [] []
 trivial
 trivial (by as_aux_lemma => kernel_rfl) hk
def fY (b : Option Addr) (a c : Nat) (Q : QT) (h : aB) : Prop :=
 Q (.int .i64 ((a : Nat) : Int)) h
def fT (f : Option Addr) (g i : Nat) (j : Value) (k : Option Addr) (l U : Nat) (m : Int) (Q : QT) (a : Int) (h : aB) (Kn1 : Int → aB → Prop) : Prop :=
 if (decide (a < m)) = true then (bO a l (nn k fun c => ldI h (c.add (a.toNat * 5)) .i64 fun n => ldL h ((c.add (a.toNat * 5)).add 1) fun o p q => ldL h ((c.add (a.toNat * 5)).add 2) fun r s t => ldL h ((c.add (a.toNat * 5)).add 3) fun u w x => ldL h ((c.add (a.toNat * 5)).add 4) fun y z A => alV h (.cells #[.int .i64 0, .slice none 0 0, .slice none 0 0, .slice none 0 0, .slice none 0 0] m8) fun b h1 => stN h1 b [.int .i64 n, .slice o p q, .slice r s t, .slice u w x, .slice y z A] 0 fun h2 => ldI h2 b .i64 fun B => ldL h2 (b.add 1) fun C D G => ldL h2 (b.add 2) fun I J L => ldL h2 (b.add 3) fun M N O => ldL h2 (b.add 4) fun P R S => my Tryz.prog j #[.agg #[.int .i64 B, .slice C D G, .slice I J L, .slice M N O, .slice P R S]] h2 fun v h3 => ∃ d, v = .bool d ∧ if d = true then (Q (.int .i64 a) h3) else (Kn1 (wrap .i64 (a + 1)) h3))) else (fY f g i Q h)
def j0 (b : Option Addr) (a c : Nat) (d : Value) (Q : QT) (h : aB) : Prop :=
 aH (fun (s : Int) h Kn => fT b a c d b a c ((a : Nat) : Int) Q s h Kn) 0 h
set_option maxRecDepth 100000 in
theorem pV (a b c f : _) {Q : QT} {h : aB} (hk : j0 a b c f Q h) : aD Tryz.prog gB #[.slice a b c, f] h Q :=
 aS follows Tryz.func74 (Tryz.call74 _) rfl rfl [(16, fun e h => dL (e 0) fun a b c => fY a b c Q h)] [(6, fun e h => dL (e 0) fun a b c => dV (e 1) fun f => dL (e 7) fun g i j => dI .i64 (e 8) fun k => dI .i64 (e 9) fun d => aH (fun (s : Int) h Kn => fT a b c f g i j k Q s h Kn) d h)]
 ⟨fun e h _ hk => by
 have F := Ag.nil (e := e)
 have ⟨a, b, c, F, hk⟩ := eL F hk
 exact fX F (by as_aux_lemma => kernel_rfl) hk, trivial⟩
 ⟨⟨by kernel_rfl, fun e h he hk => by
 have F := Ag.nil (e := e)
 have ⟨a, b, c, F, hk⟩ := eL F hk
 have ⟨f, F, hk⟩ := eV F hk
 have ⟨g, i, j, F, hk⟩ := eL F hk
 have ⟨k, F, hk⟩ := eI F hk
 have ⟨d, F, hk⟩ := eI F hk
 exact bT (s0 := d) follows (fun _ h => by cases h) he F (fun s => [(9, .int .i64 s)]) (by kernel_rfl) (F.take 1) hk (fun Kn1 e h => dI .i64 (e 9) fun d => Kn1 d h) (fun Kn1 e h hk => by
  have F := Ag.nil (e := e)
  have ⟨d, F, hk⟩ := eI F hk
  exact ⟨d, F, hk⟩)
  (fun Kn1 => []) (fun Kn1 => [])
  (fun Kn1 => trivial)
  (fun Kn1 => trivial) (fun e s h Kn1 => by as_aux_lemma => kernel_rfl)⟩, trivial⟩ (by as_aux_lemma => kernel_rfl) hk
def nJ (d : Int) (f : Option Addr) (g i : Nat) (j : Option Addr) (k l : Nat) (m : Option Addr) (n o : Nat) (p : Option Addr) (q r : Nat) (a : Addr) (Q : QT) (h : aB) : Prop :=
 alV h (.cells #[.int .i64 d, .slice f g i, .slice j k l, .slice m n o, .slice p q r] m8) fun b h1 => ldI h1 b .i64 fun s => ldI h1 (a.add 12) .i64 fun t => if (s == t) = true then (ldL h1 (b.add 1) fun u w x => ldL h1 (a.add 13) fun y z A => aD Tryz.prog jI #[.slice u w x, .slice y z A] h1 fun v h2 => ∃ c, v = .bool c ∧ Q (.bool c) h2) else (Q (.bool false) h1)
set_option maxRecDepth 100000 in
theorem uf (a b c d f g i j k l m n o p : _) {Q : QT} {h : aB} (hk : nJ a b c d f g i j k l m n o p Q h) : aD Tryz.prog jN #[.agg #[.int .i64 a, .slice b c d, .slice f g i, .slice j k l, .slice m n o], .pointer (some p)] h Q :=
 aS follows Tryz.func75 (Tryz.call75 _) rfl rfl [] []
 trivial
 trivial (by as_aux_lemma => kernel_rfl) hk
def jV (b : Option Addr) (c m : Nat) (d : Option Addr) (f n : Nat) (g : Int) (Q : QT) (a : Int) (h : aB) (Kn1 : Int → aB → Prop) : Prop :=
 if (decide (a < g)) = true then (bO a c (nn b fun i => ldI h (i.add (a.toNat * 1)) .i64 fun j => bO a f (nn d fun k => ldI h (k.add (a.toNat * 1)) .i64 fun l => if (j != l) = true then (Q (.bool false) h) else (Kn1 (wrap .i64 (a + 1)) h)))) else (Q (.bool true) h)
def nt (c : Option Addr) (a d : Nat) (f : Option Addr) (b g : Nat) (Q : QT) (h : aB) : Prop :=
 if (((a : Nat) : Int) != ((b : Nat) : Int)) = true then (Q (.bool false) h) else (aH (fun (s : Int) h Kn => jV c a d f b g ((a : Nat) : Int) Q s h Kn) 0 h)
set_option maxRecDepth 100000 in
theorem tX (b c d f g i : _) {Q : QT} {h : aB} (hk : nt b c d f g i Q h) : aD Tryz.prog jI #[.slice b c d, .slice f g i] h Q :=
 aS follows Tryz.func76 (Tryz.call76 _) rfl rfl [] [(10, fun e h => dL (e 0) fun b c d => dL (e 1) fun f g i => dI .i64 (e 12) fun j => dI .i64 (e 13) fun a => aH (fun (s : Int) h Kn => jV b c d f g i j Q s h Kn) a h)]
 trivial
 ⟨⟨by kernel_rfl, fun e h he hk => by
 have F := Ag.nil (e := e)
 have ⟨b, c, d, F, hk⟩ := eL F hk
 have ⟨f, g, i, F, hk⟩ := eL F hk
 have ⟨j, F, hk⟩ := eI F hk
 have ⟨a, F, hk⟩ := eI F hk
 exact bT (s0 := a) follows (fun _ h => by cases h) he F (fun s => [(13, .int .i64 s)]) (by kernel_rfl) (F.take 1) hk (fun Kn1 e h => dI .i64 (e 13) fun a => Kn1 a h) (fun Kn1 e h hk => by
  have F := Ag.nil (e := e)
  have ⟨a, F, hk⟩ := eI F hk
  exact ⟨a, F, hk⟩)
  (fun Kn1 => []) (fun Kn1 => [])
  (fun Kn1 => trivial)
  (fun Kn1 => trivial) (fun e s h Kn1 => by as_aux_lemma => kernel_rfl)⟩, trivial⟩ (by as_aux_lemma => kernel_rfl) hk
def fB (a b : Addr) (Q : QT) (h : aB) : Prop :=
 ldS h b fun c => ldB h (b.add 1) fun d => stN h a [.string c, .bool d] 0 fun h13 => ldS h13 a fun f => ldB h13 (a.add 1) fun g => Q (.tuple #[.agg #[.string f, .bool g], .bool true]) h13
def dR (b a : Addr) (Q : QT) (h : aB) : Prop :=
 ldB h (a.add 1) fun d => if d = true then (ldS h a fun f => aD Tryz.prog lF #[.string f] h fun v h11 => ∃ c, v = .string c ∧ st1 h11 a (.string c) fun h12 => fB b a Q h12) else (fB b a Q h)
def oH (A B : Int) (C : Option Addr) (D G : Nat) (I : Option Addr) (J L : Nat) (M : Option Addr) (N O : Nat) (P : Option Addr) (R S : Nat) (U : Bool) (V W X : Int) (Y : ByteArray) (Z a0 : Int) (a1 : Option Addr) (a2 a3 : Nat) (a4 : Option Addr) (a5 a6 : Nat) (a7 : Option Addr) (a8 a9 : Nat) (aa : Option Addr) (ab ac : Nat) (ad ae af ag : Int) (Q : QT) (h : aB) : Prop :=
 alV h (.cells #[.int .i64 A, .int .i64 B, .slice C D G, .slice I J L, .slice M N O, .slice P R S, .bool U, .int .i64 V, .int .i64 W, .int .i64 X, .string Y, .int .i64 Z, .int .i64 a0, .slice a1 a2 a3, .slice a4 a5 a6, .slice a7 a8 a9, .slice aa ab ac, .int .i64 ad, .int .i64 ae, .int .i64 af, .int .i64 ag] cK) fun a h1 => alV h1 (.cells #[.string (⟨#[]⟩ : ByteArray), .bool false] bE) fun j h2 => ldI h2 a .i64 fun ah => ldI h2 (a.add 1) .i64 fun ai => ldL h2 (a.add 2) fun aj ak al => ldL h2 (a.add 3) fun am an ao => ldL h2 (a.add 4) fun ap aq ar => ldL h2 (a.add 5) fun au av aw => ldB h2 (a.add 6) fun ax => ldI h2 (a.add 7) .i64 fun ay => ldI h2 (a.add 8) .i64 fun az => ldI h2 (a.add 9) .i64 fun b0 => ldS h2 (a.add 10) fun b1 => ldI h2 (a.add 11) .i64 fun b2 => ldI h2 (a.add 12) .i64 fun b3 => ldL h2 (a.add 13) fun b4 b5 b6 => ldL h2 (a.add 14) fun b7 b8 b9 => ldL h2 (a.add 15) fun ba bb bc => ldL h2 (a.add 16) fun bd bf bg => ldI h2 (a.add 17) .i64 fun bh => ldI h2 (a.add 18) .i64 fun bi => ldI h2 (a.add 19) .i64 fun bj => ldI h2 (a.add 20) .i64 fun bk => aD Tryz.prog kV #[.agg #[.int .i64 ah, .int .i64 ai, .slice aj ak al, .slice am an ao, .slice ap aq ar, .slice au av aw, .bool ax, .int .i64 ay, .int .i64 az, .int .i64 b0, .string b1, .int .i64 b2, .int .i64 b3, .slice b4 b5 b6, .slice b7 b8 b9, .slice ba bb bc, .slice bd bf bg, .int .i64 bh, .int .i64 bi, .int .i64 bj, .int .i64 bk]] h2 fun v h3 => ∃ b, v = .int .i64 b ∧ if (decide (b < 0)) = true then (stN h3 j [.string (⟨#[]⟩ : ByteArray), .bool false] 0 fun h4 => ldS h4 j fun bl => ldB h4 (j.add 1) fun bm => Q (.tuple #[.agg #[.string bl, .bool bm], .bool false]) h4) else (ldL h3 (a.add 14) fun r s z => bO b s (nn r fun t => ldS h3 (t.add (b.toNat * 7)) fun p => ldL h3 (a.add 14) fun k l q => bO b l (nn k fun m => ldB h3 ((m.add (b.toNat * 7)).add 1) fun i => (aD Tryz.prog l7 #[.string p] h3 fun v h5 => ∃ n, v = .string n ∧ (ldL h5 (a.add 14) fun c d f => (.slice c d f : Value) = .slice k l q) ∧ (ldB h5 ((m.add (b.toNat * 7)).add 1) fun g => (.bool g : Value) = .bool i) ∧ alV h5 (.cells #[.string (⟨#[]⟩ : ByteArray), .bool false] bE) fun o h6 => (ldL h6 (a.add 14) fun u w x => (.slice u w x : Value) = .slice r s z) ∧ (ldS h6 (t.add (b.toNat * 7)) fun y => (.string y : Value) = .string p) ∧ (ldL h6 (a.add 14) fun c d f => (.slice c d f : Value) = .slice k l q) ∧ (ldB h6 ((m.add (b.toNat * 7)).add 1) fun g => (.bool g : Value) = .bool i) ∧ stN h6 o [.string n, .bool i] 0 fun h7 => dR j o Q h7) ∧ (alV h3 (.cells #[.string (⟨#[]⟩ : ByteArray), .bool false] bE) fun o h8 => (ldL h8 (a.add 14) fun u w x => (.slice u w x : Value) = .slice r s z) ∧ (ldS h8 (t.add (b.toNat * 7)) fun y => (.string y : Value) = .string p) ∧ (ldL h8 (a.add 14) fun c d f => (.slice c d f : Value) = .slice k l q) ∧ (ldB h8 ((m.add (b.toNat * 7)).add 1) fun g => (.bool g : Value) = .bool i) ∧ aD Tryz.prog l7 #[.string p] h8 fun v h9 => ∃ n, v = .string n ∧ (ldL h9 (a.add 14) fun c d f => (.slice c d f : Value) = .slice k l q) ∧ (ldB h9 ((m.add (b.toNat * 7)).add 1) fun g => (.bool g : Value) = .bool i) ∧ stN h9 o [.string n, .bool i] 0 fun h10 => dR j o Q h10))))
set_option maxRecDepth 100000 in
theorem vi (c d f g i j k l m n o p q r s t u w x y z A B C D G I J L M N O P R S U V : _) {Q : QT} {h : aB} (hk : oH c d f g i j k l m n o p q r s t u w x y z A B C D G I J L M N O P R S U V Q h) : aD Tryz.prog kb #[.agg #[.int .i64 c, .int .i64 d, .slice f g i, .slice j k l, .slice m n o, .slice p q r, .bool s, .int .i64 t, .int .i64 u, .int .i64 w, .string x, .int .i64 y, .int .i64 z, .slice A B C, .slice D G I, .slice J L M, .slice N O P, .int .i64 R, .int .i64 S, .int .i64 U, .int .i64 V]] h Q :=
 aS follows Tryz.func77 (Tryz.call77 _) rfl rfl [(12, fun e h => dA (e 2) fun a => dA (e 5) fun b => dR a b Q h), (16, fun e h => dA (e 2) fun a => dA (e 5) fun b => fB a b Q h)] []
 ⟨fun e h _ hk => by
 have F := Ag.nil (e := e)
 have ⟨a, F, hk⟩ := eA F hk
 have ⟨b, F, hk⟩ := eA F hk
 exact fX F (by as_aux_lemma => kernel_rfl) hk, fun e h _ hk => by
 have F := Ag.nil (e := e)
 have ⟨a, F, hk⟩ := eA F hk
 have ⟨b, F, hk⟩ := eA F hk
 exact fX F (by as_aux_lemma => kernel_rfl) hk, trivial⟩
 trivial (by as_aux_lemma => kernel_rfl) hk
def eU (b : Option Addr) (a c : Nat) (Q : QT) (h : aB) : Prop :=
 Q (.int .i64 ((a : Nat) : Int)) h
def fH (f : Option Addr) (g i : Nat) (j : Value) (k : Option Addr) (l r : Nat) (m : Int) (Q : QT) (a : Int) (h : aB) (Kn1 : Int → aB → Prop) : Prop :=
 if (decide (a < m)) = true then (bO a l (nn k fun c => ldS h (c.add (a.toNat * 2)) fun n => ldB h ((c.add (a.toNat * 2)).add 1) fun o => alV h (.cells #[.string (⟨#[]⟩ : ByteArray), .bool false] bE) fun b h1 => stN h1 b [.string n, .bool o] 0 fun h2 => ldS h2 b fun p => ldB h2 (b.add 1) fun q => my Tryz.prog j #[.agg #[.string p, .bool q]] h2 fun v h3 => ∃ d, v = .bool d ∧ if d = true then (Q (.int .i64 a) h3) else (Kn1 (wrap .i64 (a + 1)) h3))) else (eU f g i Q h)
def jD (b : Option Addr) (a c : Nat) (d : Value) (Q : QT) (h : aB) : Prop :=
 aH (fun (s : Int) h Kn => fH b a c d b a c ((a : Nat) : Int) Q s h Kn) 0 h
set_option maxRecDepth 100000 in
theorem oB (a b c f : _) {Q : QT} {h : aB} (hk : jD a b c f Q h) : aD Tryz.prog fC #[.slice a b c, f] h Q :=
 aS follows Tryz.func78 (Tryz.call78 _) rfl rfl [(16, fun e h => dL (e 0) fun a b c => eU a b c Q h)] [(6, fun e h => dL (e 0) fun a b c => dV (e 1) fun f => dL (e 7) fun g i j => dI .i64 (e 8) fun k => dI .i64 (e 9) fun d => aH (fun (s : Int) h Kn => fH a b c f g i j k Q s h Kn) d h)]
 ⟨fun e h _ hk => by
 have F := Ag.nil (e := e)
 have ⟨a, b, c, F, hk⟩ := eL F hk
 exact fX F (by as_aux_lemma => kernel_rfl) hk, trivial⟩
 ⟨⟨by kernel_rfl, fun e h he hk => by
 have F := Ag.nil (e := e)
 have ⟨a, b, c, F, hk⟩ := eL F hk
 have ⟨f, F, hk⟩ := eV F hk
 have ⟨g, i, j, F, hk⟩ := eL F hk
 have ⟨k, F, hk⟩ := eI F hk
 have ⟨d, F, hk⟩ := eI F hk
 exact bT (s0 := d) follows (fun _ h => by cases h) he F (fun s => [(9, .int .i64 s)]) (by kernel_rfl) (F.take 1) hk (fun Kn1 e h => dI .i64 (e 9) fun d => Kn1 d h) (fun Kn1 e h hk => by
  have F := Ag.nil (e := e)
  have ⟨d, F, hk⟩ := eI F hk
  exact ⟨d, F, hk⟩)
  (fun Kn1 => []) (fun Kn1 => [])
  (fun Kn1 => trivial)
  (fun Kn1 => trivial) (fun e s h Kn1 => by as_aux_lemma => kernel_rfl)⟩, trivial⟩ (by as_aux_lemma => kernel_rfl) hk
def nB (c : ByteArray) (d : Bool) (a : Addr) (Q : QT) (h : aB) : Prop :=
 alV h (.cells #[.string c, .bool d] bE) fun b h1 => ldS h1 b fun f => ldB h1 (b.add 1) fun g => ldS h1 a fun i => ldB h1 (a.add 1) fun j => Q (.bool ((f == i) && ((g == j) && true))) h1
set_option maxRecDepth 100000 in
theorem uj (a b c : _) {Q : QT} {h : aB} (hk : nB a b c Q h) : aD Tryz.prog jF #[.agg #[.string a, .bool b], .pointer (some c)] h Q :=
 aS follows Tryz.func79 (Tryz.call79 _) rfl rfl [] []
 trivial
 trivial (by as_aux_lemma => kernel_rfl) hk
def gR (a : Option Addr) (f g : Nat) (Q : QT) (h : aB) : Prop :=
 if (Option.isNone a) = true then (Q (.slice none 0 0) h) else (alV h (.cells #[] bE) fun i h1 => cQ Tryz.prog .append #[eK, eK] eK #[false, false] #[.slice (some i) 0 0, .slice a f g] h1 fun v h2 => ∃ b c d, v = .slice b c d ∧ Q (.slice b c d) h2)
set_option maxRecDepth 100000 in
theorem lv (a b c : _) {Q : QT} {h : aB} (hk : gR a b c Q h) : aD Tryz.prog cE #[.slice a b c] h Q :=
 aS follows Tryz.func80 (Tryz.call80 _) rfl rfl [] []
 trivial
 trivial (by as_aux_lemma => kernel_rfl) hk
def iL (j : Option Addr) (w a : Int) (Q : QT) (h : aB) : Prop :=
 nn j fun b => ldL h b fun c d k => nn j fun l => ldL h l fun m n x => bO a n (nn m fun o => ldL h ((o.add (a.toNat * 259)).add 258) fun p q r => alV h (.cells #[.int .i64 w] oF) fun y h6 => (ldL h6 b fun f g i => (.slice f g i : Value) = .slice c d k) ∧ (ldL h6 l fun z A B => (.slice z A B : Value) = .slice m n x) ∧ (ldL h6 ((o.add (a.toNat * 259)).add 258) fun C D G => (.slice C D G : Value) = .slice p q r) ∧ cQ Tryz.prog .append #[bG, bG] bG #[false, false] #[.slice p q r, .slice (some y) 1 1] h6 fun v h7 => ∃ s t u, v = .slice s t u ∧ (ldL h7 b fun f g i => (.slice f g i : Value) = .slice c d k) ∧ bO a d (nn c fun I => st1 h7 ((I.add (a.toNat * 259)).add 258) (.slice s t u) fun h8 => Q (.tuple #[]) h8))
def iM (a : Option Addr) (l : Int) (m : ByteArray) (n : Int) (Q : QT) (b d : Int) (h : aB) (Kn1 : Int × Int → aB → Prop) : Prop :=
 if (decide (d < n)) = true then (jw m d fun o => aD Tryz.prog ke #[.int .u8 o] h fun v h1 => ∃ c, v = .int .u8 c ∧ nn a fun p => ldL h1 p fun q r I => bO b r (nn q fun s => bO c 256 (ldI h1 ((s.add (b.toNat * 259)).add (c.toNat * 1)) .u16 fun f => if ((wrap .i64 f) == 0) = true then (nn a fun t => ldL h1 t fun J g L => nn a fun u => ldL h1 u fun w x y => alV h1 (.cells #[.int .u16 0, .int .u16 0, .int .u16 0, .int .u16 0, .int .u16 0, .int .u16 0, .int .u16 0, .int .u16 0, .int .u16 0, .int .u16 0, .int .u16 0, .int .u16 0, .int .u16 0, .int .u16 0, .int .u16 0, .int .u16 0, .int .u16 0, .int .u16 0, .int .u16 0, .int .u16 0, .int .u16 0, .int .u16 0, .int .u16 0, .int .u16 0, .int .u16 0, .int .u16 0, .int .u16 0, .int .u16 0, .int .u16 0, .int .u16 0, .int .u16 0, .int .u16 0, .int .u16 0, .int .u16 0, .int .u16 0, .int .u16 0, .int .u16 0, .int .u16 0, .int .u16 0, .int .u16 0, .int .u16 0, .int .u16 0, .int .u16 0, .int .u16 0, .int .u16 0, .int .u16 0, .int .u16 0, .int .u16 0, .int .u16 0, .int .u16 0, .int .u16 0, .int .u16 0, .int .u16 0, .int .u16 0, .int .u16 0, .int .u16 0, .int .u16 0, .int .u16 0, .int .u16 0, .int .u16 0, .int .u16 0, .int .u16 0, .int .u16 0, .int .u16 0, .int .u16 0, .int .u16 0, .int .u16 0, .int .u16 0, .int .u16 0, .int .u16 0, .int .u16 0, .int .u16 0, .int .u16 0, .int .u16 0, .int .u16 0, .int .u16 0, .int .u16 0, .int .u16 0, .int .u16 0, .int .u16 0, .int .u16 0, .int .u16 0, .int .u16 0, .int .u16 0, .int .u16 0, .int .u16 0, .int .u16 0, .int .u16 0, .int .u16 0, .int .u16 0, .int .u16 0, .int .u16 0, .int .u16 0, .int .u16 0, .int .u16 0, .int .u16 0, .int .u16 0, .int .u16 0, .int .u16 0, .int .u16 0, .int .u16 0, .int .u16 0, .int .u16 0, .int .u16 0, .int .u16 0, .int .u16 0, .int .u16 0, .int .u16 0, .int .u16 0, .int .u16 0, .int .u16 0, .int .u16 0, .int .u16 0, .int .u16 0, .int .u16 0, .int .u16 0, .int .u16 0, .int .u16 0, .int .u16 0, .int .u16 0, .int .u16 0, .int .u16 0, .int .u16 0, .int .u16 0, .int .u16 0, .int .u16 0, .int .u16 0, .int .u16 0, .int .u16 0, .int .u16 0, .int .u16 0, .int .u16 0, .int .u16 0, .int .u16 0, .int .u16 0, .int .u16 0, .int .u16 0, .int .u16 0, .int .u16 0, .int .u16 0, .int .u16 0, .int .u16 0, .int .u16 0, .int .u16 0, .int .u16 0, .int .u16 0, .int .u16 0, .int .u16 0, .int .u16 0, .int .u16 0, .int .u16 0, .int .u16 0, .int .u16 0, .int .u16 0, .int .u16 0, .int .u16 0, .int .u16 0, .int .u16 0, .int .u16 0, .int .u16 0, .int .u16 0, .int .u16 0, .int .u16 0, .int .u16 0, .int .u16 0, .int .u16 0, .int .u16 0, .int .u16 0, .int .u16 0, .int .u16 0, .int .u16 0, .int .u16 0, .int .u16 0, .int .u16 0, .int .u16 0, .int .u16 0, .int .u16 0, .int .u16 0, .int .u16 0, .int .u16 0, .int .u16 0, .int .u16 0, .int .u16 0, .int .u16 0, .int .u16 0, .int .u16 0, .int .u16 0, .int .u16 0, .int .u16 0, .int .u16 0, .int .u16 0, .int .u16 0, .int .u16 0, .int .u16 0, .int .u16 0, .int .u16 0, .int .u16 0, .int .u16 0, .int .u16 0, .int .u16 0, .int .u16 0, .int .u16 0, .int .u16 0, .int .u16 0, .int .u16 0, .int .u16 0, .int .u16 0, .int .u16 0, .int .u16 0, .int .u16 0, .int .u16 0, .int .u16 0, .int .u16 0, .int .u16 0, .int .u16 0, .int .u16 0, .int .u16 0, .int .u16 0, .int .u16 0, .int .u16 0, .int .u16 0, .int .u16 0, .int .u16 0, .int .u16 0, .int .u16 0, .int .u16 0, .int .u16 0, .int .u16 0, .int .u16 0, .int .u16 0, .int .u16 0, .int .u16 0, .int .u16 0, .int .u16 0, .int .u16 0, .int .u16 0, .int .u16 0, .int .u16 0, .int .u16 0, .int .u16 0, .int .u16 0, .int .u16 0, .int .u16 0, .int .u16 0, .int .u16 0, .int .u16 0, .int .u16 0, .int .u16 0, .int .u16 0, .int .u16 0, .int .u16 0, .int .u16 0, .int .u16 0, .int .u16 0, .int .u16 0, .int .u16 0, .int .u16 0, .int .u16 0, .slice none 0 0] rY) fun z h2 => cQ Tryz.prog .append #[cH, cH] cH #[false, false] #[.slice w x y, .slice (some z) 1 1] h2 fun v h3 => ∃ i j k, v = .slice i j k ∧ nn a fun A => st1 h3 A (.slice i j k) fun h4 => nn a fun B => ldL h4 B fun C D M => bO b D (nn C fun G => bO c 256 (st1 h4 ((G.add (b.toNat * 259)).add (c.toNat * 1)) (.int .u16 (wrap .u16 ((g : Nat) : Int))) fun h5 => Kn1 (((g : Nat) : Int), wrap .i64 (d + 1)) h5))) else (Kn1 (wrap .i64 f, wrap .i64 (d + 1)) h1)))) else (iL a l b Q h)
def md (b : Option Addr) (c : Int) (a : ByteArray) (Q : QT) (h : aB) : Prop :=
 aH (fun (s : Int × Int) h Kn => iM b c a ((a.size : Nat) : Int) Q s.1 s.2 h Kn) (0, 0) h
set_option maxRecDepth 100000 in
theorem rR (b c f : _) {Q : QT} {h : aB} (hk : md b c f Q h) : aD Tryz.prog iO #[.pointer b, .int .i64 c, .string f] h Q :=
 aS follows Tryz.func81 (Tryz.call81 _) rfl rfl [(26, fun e h => dP (e 0) fun b => dI .i64 (e 1) fun c => dI .i64 (e 6) fun a => iL b c a Q h)] [(6, fun e h => dP (e 0) fun b => dI .i64 (e 1) fun c => dS (e 2) fun f => dI .i64 (e 11) fun g => dI .i64 (e 6) fun a => dI .i64 (e 12) fun d => aH (fun (s : Int × Int) h Kn => iM b c f g Q s.1 s.2 h Kn) (a, d) h)]
 ⟨fun e h _ hk => by
 have F := Ag.nil (e := e)
 have ⟨b, F, hk⟩ := eP F hk
 have ⟨c, F, hk⟩ := eI F hk
 have ⟨a, F, hk⟩ := eI F hk
 exact fX F (by as_aux_lemma => kernel_rfl) hk, trivial⟩
 ⟨⟨by kernel_rfl, fun e h he hk => by
 have F := Ag.nil (e := e)
 have ⟨b, F, hk⟩ := eP F hk
 have ⟨c, F, hk⟩ := eI F hk
 have ⟨f, F, hk⟩ := eS F hk
 have ⟨g, F, hk⟩ := eI F hk
 have ⟨a, F, hk⟩ := eI F hk
 have ⟨d, F, hk⟩ := eI F hk
 exact bT (s0 := (a, d)) follows (fun _ h => by cases h) he F (fun s => [(12, .int .i64 s.2), (6, .int .i64 s.1)]) (by kernel_rfl) (F.take 2) hk (fun Kn1 e h => dI .i64 (e 6) fun a => dI .i64 (e 12) fun d => Kn1 (a, d) h) (fun Kn1 e h hk => by
  have F := Ag.nil (e := e)
  have ⟨a, F, hk⟩ := eI F hk
  have ⟨d, F, hk⟩ := eI F hk
  exact ⟨(a, d), F, hk⟩)
  (fun Kn1 => []) (fun Kn1 => [])
  (fun Kn1 => trivial)
  (fun Kn1 => trivial) (fun e s h Kn1 => by as_aux_lemma => kernel_rfl)⟩, trivial⟩ (by as_aux_lemma => kernel_rfl) hk
def ip (l : Option Addr) (m g : Addr) (n : List Value) (Q : QT) (Kn3 : (Option Addr) × Nat × Nat → aB → Prop) (c : Option Addr) (d f : Nat) (a : Int) (h : aB) (Kn5 : (Option Addr) × Nat × Nat × Int → aB → Prop) : Prop :=
 if (decide (a < 256)) = true then (bO a 256 (∃ v, n.toArray[a.toNat]? = some v ∧ ∃ b, v = .int .u16 b ∧ if (b == 0) = true then (bO a 256 (ldI h (g.add (a.toNat * 1)) .u16 fun o => bO a 256 (st1 h (m.add (a.toNat * 1)) (.int .u16 o) fun h5 => Kn5 (c, d, f, wrap .i64 (a + 1)) h5))) else (nn l fun p => ldL h p fun q r w => bO a 256 (ldI h (g.add (a.toNat * 1)) .u16 fun s => bO b r (nn q fun t => st1 h ((t.add (b.toNat * 259)).add 256) (.int .u16 s) fun h6 => alV h6 (.cells #[.int .u16 b] AX) fun u h7 => cQ Tryz.prog .append #[lB, lB] lB #[false, false] #[.slice c d f, .slice (some u) 1 1] h7 fun v h8 => ∃ i j k, v = .slice i j k ∧ Kn5 (i, j, k, wrap .i64 (a + 1)) h8))))) else (Kn3 (c, d, f) h)
def cJ (b c : Option Addr) (d f : Nat) (a g : Addr) (Q : QT) (Kn3 : (Option Addr) × Nat × Nat → aB → Prop) (h : aB) : Prop :=
 ldN h a (kinds Tryz.prog 20 202) 0 fun i => aH (fun (s : (Option Addr) × Nat × Nat × Int) h Kn => ip b a g i Q Kn3 s.1 s.2.1 s.2.2.1 s.2.2.2 h Kn) (c, d, f, 0) h
def iv (d : Option Addr) (Q : QT) (i : Option Addr) (g m : Nat) (h : aB) (Kn3 : (Option Addr) × Nat × Nat → aB → Prop) : Prop :=
 if (decide (((g : Nat) : Int) > 0)) = true then (bO (0 : Int) g (nn i fun n => ldI h (n.add (((0 : Int)).toNat * 1)) .u16 fun a => fM 1 i g m (some (1 : Int)) none none fun j k l => nn d fun o => ldL h o fun p q y => bO a q (nn p fun b => nn d fun r => ldL h r fun s t z => ldI h ((b.add (a.toNat * 259)).add 256) .u16 fun c => bO c t (nn s fun f => ldI h ((b.add (a.toNat * 259)).add 256) .u16 fun u => st1 h ((b.add (a.toNat * 259)).add 257) (.int .u16 u) fun h3 => ldL h3 ((f.add (c.toNat * 259)).add 258) fun A w B => if (((w : Nat) : Int) == 0) = true then (ldI h3 ((f.add (c.toNat * 259)).add 257) .u16 fun x => st1 h3 ((b.add (a.toNat * 259)).add 257) (.int .u16 x) fun h4 => cJ d j k l (b.add (a.toNat * 259)) (f.add (c.toNat * 259)) Q Kn3 h4) else (cJ d j k l (b.add (a.toNat * 259)) (f.add (c.toNat * 259)) Q Kn3 h3))))) else (Q (.tuple #[]) h)
def iq (a b : Option Addr) (c d : Nat) (Q : QT) (h : aB) : Prop :=
 aH (fun (s : (Option Addr) × Nat × Nat) h Kn => iv a Q s.1 s.2.1 s.2.2 h Kn) (b, c, d) h
def ix (k : Option Addr) (l : List Value) (Q : QT) (b : Option Addr) (c d : Nat) (a : Int) (h : aB) (Kn1 : (Option Addr) × Nat × Nat × Int → aB → Prop) : Prop :=
 if (decide (a < 256)) = true then (bO a 256 (∃ v, l.toArray[a.toNat]? = some v ∧ ∃ f, v = .int .u16 f ∧ if (f != 0) = true then (alV h (.cells #[.int .u16 f] AX) fun m h1 => cQ Tryz.prog .append #[lB, lB] lB #[false, false] #[.slice b c d, .slice (some m) 1 1] h1 fun v h2 => ∃ g i j, v = .slice g i j ∧ Kn1 (g, i, j, wrap .i64 (a + 1)) h2) else (Kn1 (b, c, d, wrap .i64 (a + 1)) h))) else (iq k b c d Q h)
def lx (a : Option Addr) (Q : QT) (h : aB) : Prop :=
 nn a fun b => ldL h b fun c d i => bO (0 : Int) d (nn c fun f => ldN h (f.add (((0 : Int)).toNat * 259)) (kinds Tryz.prog 20 202) 0 fun g => aH (fun (s : (Option Addr) × Nat × Nat × Int) h Kn => ix a g Q s.1 s.2.1 s.2.2.1 s.2.2.2 h Kn) (none, 0, 0, 0) h)
set_option maxRecDepth 100000 in
theorem qY (d : _) {Q : QT} {h : aB} (hk : lx d Q h) : aD Tryz.prog io #[.pointer d] h Q :=
 aS follows Tryz.func82 (Tryz.call82 _) rfl rfl [(16, fun e h => dP (e 0) fun d => dL (e 2) fun a b c => iq d a b c Q h)] [(6, fun e h => dP (e 0) fun d => dG (e 16) fun k => dL (e 2) fun a b c => dI .i64 (e 17) fun f => aH (fun (s : (Option Addr) × Nat × Nat × Int) h Kn => ix d k Q s.1 s.2.1 s.2.2.1 s.2.2.2 h Kn) (a, b, c, f) h), (16, fun e h => dP (e 0) fun d => dL (e 2) fun a b c => aH (fun (s : (Option Addr) × Nat × Nat) h Kn => iv d Q s.1 s.2.1 s.2.2 h Kn) (a, b, c) h)]
 ⟨fun e h _ hk => by
 have F := Ag.nil (e := e)
 have ⟨d, F, hk⟩ := eP F hk
 have ⟨a, b, c, F, hk⟩ := eL F hk
 exact fX F (by as_aux_lemma => kernel_rfl) hk, trivial⟩
 ⟨⟨by kernel_rfl, fun e h he hk => by
 have F := Ag.nil (e := e)
 have ⟨d, F, hk⟩ := eP F hk
 have ⟨k, F, hk⟩ := eG F hk
 have ⟨a, b, c, F, hk⟩ := eL F hk
 have ⟨f, F, hk⟩ := eI F hk
 exact bT (s0 := (a, b, c, f)) follows (fun _ h => by cases h) he F (fun s => [(17, .int .i64 s.2.2.2), (2, .slice s.1 s.2.1 s.2.2.1)]) (by kernel_rfl) (F.take 2) hk (fun Kn1 e h => dL (e 2) fun a b c => dI .i64 (e 17) fun f => Kn1 (a, b, c, f) h) (fun Kn1 e h hk => by
  have F := Ag.nil (e := e)
  have ⟨a, b, c, F, hk⟩ := eL F hk
  have ⟨f, F, hk⟩ := eI F hk
  exact ⟨(a, b, c, f), F, hk⟩)
  (fun Kn1 => []) (fun Kn1 => [])
  (fun Kn1 => trivial)
  (fun Kn1 => trivial) (fun e s h Kn1 => by as_aux_lemma => kernel_rfl)⟩, ⟨by kernel_rfl, fun e h he hk => by
 have F := Ag.nil (e := e)
 have ⟨d, F, hk⟩ := eP F hk
 have ⟨a, b, c, F, hk⟩ := eL F hk
 exact bT (s0 := (a, b, c)) follows (fun _ h => by cases h) he F (fun s => [(2, .slice s.1 s.2.1 s.2.2)]) (by kernel_rfl) (F.take 1) hk (fun Kn3 e h => dL (e 2) fun a b c => Kn3 (a, b, c) h) (fun Kn3 e h hk => by
  have F := Ag.nil (e := e)
  have ⟨a, b, c, F, hk⟩ := eL F hk
  exact ⟨(a, b, c), F, hk⟩)
  (fun Kn3 => [(32, fun e h => dP (e 0) fun d => dL (e 2) fun a b c => dA (e 6) fun i => dA (e 7) fun j => cJ d a b c i j Q Kn3 h)]) (fun Kn3 => [(34, fun e h => dP (e 0) fun d => dA (e 6) fun i => dA (e 7) fun j => dG (e 73) fun l => dL (e 2) fun a b c => dI .i64 (e 74) fun g => aH (fun (s : (Option Addr) × Nat × Nat × Int) h Kn => ip d i j l Q Kn3 s.1 s.2.1 s.2.2.1 s.2.2.2 h Kn) (a, b, c, g) h)])
  (fun Kn3 => ⟨fun e h _ hk => by
 have F := Ag.nil (e := e)
 have ⟨d, F, hk⟩ := eP F hk
 have ⟨a, b, c, F, hk⟩ := eL F hk
 have ⟨i, F, hk⟩ := eA F hk
 have ⟨j, F, hk⟩ := eA F hk
 exact fX F (by as_aux_lemma => kernel_rfl) hk, trivial⟩)
  (fun Kn3 => ⟨⟨by kernel_rfl, fun e h he hk => by
 have F := Ag.nil (e := e)
 have ⟨d, F, hk⟩ := eP F hk
 have ⟨i, F, hk⟩ := eA F hk
 have ⟨j, F, hk⟩ := eA F hk
 have ⟨l, F, hk⟩ := eG F hk
 have ⟨a, b, c, F, hk⟩ := eL F hk
 have ⟨g, F, hk⟩ := eI F hk
 exact bT (s0 := (a, b, c, g)) follows (tP (by kernel_rfl)) he F (fun s => [(74, .int .i64 s.2.2.2), (2, .slice s.1 s.2.1 s.2.2.1)]) (by kernel_rfl) (F.take 2) hk (fun Kn5 e h => dL (e 2) fun a b c => dI .i64 (e 74) fun g => Kn5 (a, b, c, g) h) (fun Kn5 e h hk => by
  have F := Ag.nil (e := e)
  have ⟨a, b, c, F, hk⟩ := eL F hk
  have ⟨g, F, hk⟩ := eI F hk
  exact ⟨(a, b, c, g), F, hk⟩)
  (fun Kn5 => []) (fun Kn5 => [])
  (fun Kn5 => trivial)
  (fun Kn5 => trivial) (fun e s h Kn5 => by as_aux_lemma => kernel_rfl)⟩, trivial⟩) (fun e s h Kn3 => by as_aux_lemma => kernel_rfl)⟩, trivial⟩ (by as_aux_lemma => kernel_rfl) hk
def jA (a : Option Addr) (b c : Nat) (Q : QT) (h : aB) : Prop :=
 aD Tryz.prog ir #[.slice a b c] h fun v h11 => v = .tuple #[] ∧ Q (.slice a b c) h11
def jB (b : Option Addr) (Q : QT) (c : Option Addr) (d f : Nat) (a : Int) (h : aB) (Kn2 : (Option Addr) × Nat × Nat × Int → aB → Prop) : Prop :=
 if (a != 0) = true then (nn b fun n => ldP h n fun o => nn o fun p => ldL h p fun q r G => bO a r (nn q fun s => ldL h ((s.add (a.toNat * 259)).add 258) fun t u w => aD Tryz.prog nV #[.slice t u w, .func (.func 111) #[.pointer b] #[]] h fun v h9 => ∃ g i j, v = .slice g i j ∧ cQ Tryz.prog .append #[bG, bG] bG #[false, false] #[.slice c d f, .slice g i j] h9 fun v h10 => ∃ k l m, v = .slice k l m ∧ nn b fun x => ldP h10 x fun y => nn y fun z => ldL h10 z fun A B I => bO a B (nn A fun C => ldI h10 ((C.add (a.toNat * 259)).add 257) .u16 fun D => Kn2 (k, l, m, D) h10))) else (jA c d f Q h)
def ee (a : Option Addr) (d : Int) (Q : QT) (h : aB) : Prop :=
 nn a fun p => ldL h (p.add 3) fun q r t => alV h (.cells #[.int .u8 d] gK) fun u h4 => cQ Tryz.prog .append #[aL, aL] aL #[false, false] #[.slice q r t, .slice (some u) 1 1] h4 fun v h5 => ∃ f g i, v = .slice f g i ∧ nn a fun w => st1 h5 (w.add 3) (.slice f g i) fun h6 => nn a fun j => ldP h6 j fun k => nn k fun l => ldL h6 l fun m n x => nn a fun o => ldI h6 (o.add 1) .u16 fun b => bO b n (nn m fun y => aD Tryz.prog ke #[.int .u8 d] h6 fun v h7 => ∃ c, v = .int .u8 c ∧ (ldP h7 j fun z => (.pointer z : Value) = .pointer k) ∧ (ldL h7 l fun A B C => (.slice A B C : Value) = .slice m n x) ∧ (ldI h7 (o.add 1) .u16 fun D => (.int .u16 D : Value) = .int .u16 b) ∧ bO c 256 (ldI h7 ((y.add (b.toNat * 259)).add (c.toNat * 1)) .u16 fun G => nn a fun I => st1 h7 (I.add 1) (.int .u16 G) fun h8 => nn a fun J => ldI h8 (J.add 1) .u16 fun L => aH (fun (s : (Option Addr) × Nat × Nat × Int) h Kn => jB a Q s.1 s.2.1 s.2.2.1 s.2.2.2 h Kn) (none, 0, 0, L) h8))
def m7 (a : Option Addr) (b : Int) (Q : QT) (h : aB) : Prop :=
 nn a fun g => ldI h (g.add 2) .i64 fun i => nn a fun j => st1 h (j.add 2) (.int .i64 (wrap .i64 (i + 1))) fun h1 => nn a fun k => ldL h1 (k.add 3) fun C l D => if (((l : Nat) : Int) == 64) = true then (nn a fun m => ldL h1 (m.add 3) fun n o p => fM 1 n o p none (some (0 : Int)) none fun q r s => nn a fun t => ldL h1 (t.add 3) fun u w x => fM 1 u w x (some (1 : Int)) none none fun y z A => cQ Tryz.prog .append #[aL, aL] aL #[false, false] #[.slice q r s, .slice y z A] h1 fun v h2 => ∃ c d f, v = .slice c d f ∧ nn a fun B => st1 h2 (B.add 3) (.slice c d f) fun h3 => ee a b Q h3) else (ee a b Q h1)
set_option maxRecDepth 100000 in
theorem tv (d g : _) {Q : QT} {h : aB} (hk : m7 d g Q h) : aD Tryz.prog gJ #[.pointer d, .int .u8 g] h Q :=
 aS follows Tryz.func83 (Tryz.call83 _) rfl rfl [(10, fun e h => dP (e 0) fun d => dI .u8 (e 1) fun g => ee d g Q h), (24, fun e h => dL (e 5) fun a b c => jA a b c Q h)] [(18, fun e h => dP (e 0) fun d => dL (e 5) fun a b c => dI .u16 (e 6) fun f => aH (fun (s : (Option Addr) × Nat × Nat × Int) h Kn => jB d Q s.1 s.2.1 s.2.2.1 s.2.2.2 h Kn) (a, b, c, f) h)]
 ⟨fun e h _ hk => by
 have F := Ag.nil (e := e)
 have ⟨d, F, hk⟩ := eP F hk
 have ⟨g, F, hk⟩ := eI F hk
 exact fX F (by as_aux_lemma => kernel_rfl) hk, fun e h _ hk => by
 have F := Ag.nil (e := e)
 have ⟨a, b, c, F, hk⟩ := eL F hk
 exact fX F (by as_aux_lemma => kernel_rfl) hk, trivial⟩
 ⟨⟨by kernel_rfl, fun e h he hk => by
 have F := Ag.nil (e := e)
 have ⟨d, F, hk⟩ := eP F hk
 have ⟨a, b, c, F, hk⟩ := eL F hk
 have ⟨f, F, hk⟩ := eI F hk
 exact bT (s0 := (a, b, c, f)) follows (fun _ h => by cases h) he F (fun s => [(6, .int .u16 s.2.2.2), (5, .slice s.1 s.2.1 s.2.2.1)]) (by kernel_rfl) (F.take 2) hk (fun Kn2 e h => dL (e 5) fun a b c => dI .u16 (e 6) fun f => Kn2 (a, b, c, f) h) (fun Kn2 e h hk => by
  have F := Ag.nil (e := e)
  have ⟨a, b, c, F, hk⟩ := eL F hk
  have ⟨f, F, hk⟩ := eI F hk
  exact ⟨(a, b, c, f), F, hk⟩)
  (fun Kn2 => []) (fun Kn2 => [])
  (fun Kn2 => trivial)
  (fun Kn2 => trivial) (fun e s h Kn2 => by as_aux_lemma => kernel_rfl)⟩, trivial⟩ (by as_aux_lemma => kernel_rfl) hk
def xo (b : Int) (a : ByteArray) (Q : QT) (h : aB) : Prop :=
 if (b == 1) = true then (aD Tryz.prog rD #[.string a] h fun v h1 => ∃ c, v = .string c ∧ Q (.string c) h1) else (if (b == 2) = true then (aD Tryz.prog qR #[.string a] h fun v h2 => ∃ d, v = .string d ∧ Q (.string d) h2) else (if (b == 3) = true then (aD Tryz.prog pB #[.string a] h fun v h3 => ∃ f, v = .string f ∧ Q (.string f) h3) else (if (b == 4) = true then (aD Tryz.prog qj #[.string a] h fun v h4 => ∃ g, v = .string g ∧ Q (.string g) h4) else (if (b == 5) = true then (aD Tryz.prog su #[.string a] h fun v h5 => ∃ i, v = .string i ∧ Q (.string i) h5) else (if (b == 6) = true then (aD Tryz.prog uC #[.string a] h fun v h6 => ∃ j, v = .string j ∧ Q (.string j) h6) else (Q (.string a) h))))))
set_option maxRecDepth 100000 in
theorem CA (a b : _) {Q : QT} {h : aB} (hk : xo a b Q h) : aD Tryz.prog rN #[.int .i64 a, .string b] h Q :=
 aS follows Tryz.func86 (Tryz.call86 _) rfl rfl [] []
 trivial
 trivial (by as_aux_lemma => kernel_rfl) hk
def iA (c : Option Addr) (d k : Nat) (f : Value) (g : Int) (Q : QT) (a : Int) (h : aB) (Kn1 : Int → aB → Prop) : Prop :=
 if (decide (a < g)) = true then (bO a d (nn c fun i => ldI h (i.add (a.toNat * 1)) .i64 fun j => my Tryz.prog f #[.int .i64 j] h fun v h1 => ∃ b, v = .bool b ∧ if b = true then (Q (.int .i64 a) h1) else (Kn1 (wrap .i64 (a + 1)) h1))) else (Q (.int .i64 (-1)) h)
def lK (b : Option Addr) (a c : Nat) (d : Value) (Q : QT) (h : aB) : Prop :=
 aH (fun (s : Int) h Kn => iA b a c d ((a : Nat) : Int) Q s h Kn) 0 h
set_option maxRecDepth 100000 in
theorem qS (b c d f : _) {Q : QT} {h : aB} (hk : lK b c d f Q h) : aD Tryz.prog ik #[.slice b c d, f] h Q :=
 aS follows Tryz.func87 (Tryz.call87 _) rfl rfl [] [(6, fun e h => dL (e 0) fun b c d => dV (e 1) fun f => dI .i64 (e 7) fun g => dI .i64 (e 8) fun a => aH (fun (s : Int) h Kn => iA b c d f g Q s h Kn) a h)]
 trivial
 ⟨⟨by kernel_rfl, fun e h he hk => by
 have F := Ag.nil (e := e)
 have ⟨b, c, d, F, hk⟩ := eL F hk
 have ⟨f, F, hk⟩ := eV F hk
 have ⟨g, F, hk⟩ := eI F hk
 have ⟨a, F, hk⟩ := eI F hk
 exact bT (s0 := a) follows (fun _ h => by cases h) he F (fun s => [(8, .int .i64 s)]) (by kernel_rfl) (F.take 1) hk (fun Kn1 e h => dI .i64 (e 8) fun a => Kn1 a h) (fun Kn1 e h hk => by
  have F := Ag.nil (e := e)
  have ⟨a, F, hk⟩ := eI F hk
  exact ⟨a, F, hk⟩)
  (fun Kn1 => []) (fun Kn1 => [])
  (fun Kn1 => trivial)
  (fun Kn1 => trivial) (fun e s h Kn1 => by as_aux_lemma => kernel_rfl)⟩, trivial⟩ (by as_aux_lemma => kernel_rfl) hk
def oE (j : Bool) (k l : Int) (m : Bool) (n o p q : Int) (a : Addr) (Q : QT) (h : aB) : Prop :=
 alV h (.cells #[.bool j, .int .u64 k, .int .u64 l] cI) fun b h1 => alV h1 (.cells #[.bool m, .int .u64 n, .int .u64 o] cI) fun c h2 => ldL h2 (a.add 21) fun r s t => ldB h2 b fun u => ldI h2 (b.add 1) .u64 fun w => ldI h2 (b.add 2) .u64 fun x => aD Tryz.prog jE #[.slice r s t, .agg #[.bool u, .int .u64 w, .int .u64 x]] h2 fun v h3 => ∃ d, v = .bool d ∧ if d = true then (ldL h3 (a.add 23) fun y z A => aD Tryz.prog jg #[.slice y z A, .int .i64 p] h3 fun v h4 => ∃ f, v = .bool f ∧ if f = true then (ldL h4 (a.add 22) fun B C D => ldB h4 c fun G => ldI h4 (c.add 1) .u64 fun I => ldI h4 (c.add 2) .u64 fun J => aD Tryz.prog jE #[.slice B C D, .agg #[.bool G, .int .u64 I, .int .u64 J]] h4 fun v h5 => ∃ g, v = .bool g ∧ if g = true then (ldL h5 (a.add 24) fun L M N => aD Tryz.prog jg #[.slice L M N, .int .i64 q] h5 fun v h6 => ∃ i, v = .bool i ∧ Q (.bool i) h6) else (Q (.bool false) h5)) else (Q (.bool false) h4)) else (Q (.bool false) h3)
set_option maxRecDepth 100000 in
theorem vd (a b c d f g i j k : _) {Q : QT} {h : aB} (hk : oE a b c d f g i j k Q h) : aD Tryz.prog im #[.agg #[.bool a, .int .u64 b, .int .u64 c], .agg #[.bool d, .int .u64 f, .int .u64 g], .int .i64 i, .int .i64 j, .pointer (some k)] h Q :=
 aS follows Tryz.func88 (Tryz.call88 _) rfl rfl [] []
 trivial
 trivial (by as_aux_lemma => kernel_rfl) hk
def q6 (d : Option Addr) (f g : Nat) (i : Bool) (j k : Int) (Q : QT) (h : aB) : Prop :=
 alV h (.cells #[.bool i, .int .u64 j, .int .u64 k] cI) fun a h1 => ldB h1 a fun l => ldI h1 (a.add 1) .u64 fun m => ldI h1 (a.add 2) .u64 fun n => aD Tryz.prog jX #[.agg #[.bool l, .int .u64 m, .int .u64 n]] h1 fun v h2 => ∃ b, v = .bool b ∧ if b = true then (aD Tryz.prog cR #[.slice d f g, .func (.func 121) #[] #[.pointer (some a)]] h2 fun v h3 => ∃ c, v = .bool c ∧ Q (.bool c) h3) else (Q (.bool false) h2)
set_option maxRecDepth 100000 in
theorem xv (a b c d f g : _) {Q : QT} {h : aB} (hk : q6 a b c d f g Q h) : aD Tryz.prog jE #[.slice a b c, .agg #[.bool d, .int .u64 f, .int .u64 g]] h Q :=
 aS follows Tryz.func89 (Tryz.call89 _) rfl rfl [] []
 trivial
 trivial (by as_aux_lemma => kernel_rfl) hk
def qt (c : Option Addr) (d f : Nat) (g : Int) (Q : QT) (h : aB) : Prop :=
 alV h (.cells #[.int .i64 g] oF) fun a h1 => ldI h1 a .i64 fun i => if (decide (i ≥ 0)) = true then (ldI h1 a .i64 fun j => if (decide (j ≤ 4294967296)) = true then (aD Tryz.prog cT #[.slice c d f, .func (.func 125) #[] #[.pointer (some a)]] h1 fun v h2 => ∃ b, v = .bool b ∧ Q (.bool b) h2) else (Q (.bool false) h1)) else (Q (.bool false) h1)
set_option maxRecDepth 100000 in
theorem wM (a b c d : _) {Q : QT} {h : aB} (hk : qt a b c d Q h) : aD Tryz.prog jg #[.slice a b c, .int .i64 d] h Q :=
 aS follows Tryz.func90 (Tryz.call90 _) rfl rfl [] []
 trivial
 trivial (by as_aux_lemma => kernel_rfl) hk
def yv (i j : Int) (k : Option Addr) (l m : Nat) (n : Option Addr) (o p : Nat) (q : Option Addr) (r s : Nat) (t : Option Addr) (u w : Nat) (x : Bool) (y z A : Int) (B : ByteArray) (C D : Int) (G : Option Addr) (I J : Nat) (L : Option Addr) (M N : Nat) (O : Option Addr) (P R : Nat) (S : Option Addr) (U V : Nat) (W X Y Z : Int) (a0 : Option Addr) (a1 a2 : Nat) (a3 : Option Addr) (a4 a5 : Nat) (a6 : Option Addr) (a7 a8 : Nat) (a9 : Option Addr) (aa ab : Nat) (ac : Int) (ad : Bool) (ae af : Int) (ag : Bool) (ah ai aj ak : Int) (Q : QT) (h : aB) : Prop :=
 alV h (.cells #[.int .i64 i, .int .i64 j, .slice k l m, .slice n o p, .slice q r s, .slice t u w, .bool x, .int .i64 y, .int .i64 z, .int .i64 A, .string B, .int .i64 C, .int .i64 D, .slice G I J, .slice L M N, .slice O P R, .slice S U V, .int .i64 W, .int .i64 X, .int .i64 Y, .int .i64 Z, .slice a0 a1 a2, .slice a3 a4 a5, .slice a6 a7 a8, .slice a9 aa ab] cA) fun b h1 => alV h1 (.cells #[.int .i64 ac, .bool ad, .int .u64 ae, .int .u64 af, .bool ag, .int .u64 ah, .int .u64 ai, .int .i64 aj, .int .i64 ak] hU) fun a h2 => ldL h2 (b.add 21) fun al am an => ldB h2 (a.add 1) fun ao => ldI h2 (a.add 2) .u64 fun ap => ldI h2 (a.add 3) .u64 fun aq => aD Tryz.prog ll #[.slice al am an, .agg #[.bool ao, .int .u64 ap, .int .u64 aq]] h2 fun v h3 => ∃ c, v = .bool c ∧ if c = true then (ldL h3 (b.add 23) fun ar au av => ldI h3 (a.add 7) .i64 fun aw => aD Tryz.prog lj #[.slice ar au av, .int .i64 aw] h3 fun v h4 => ∃ d, v = .bool d ∧ if d = true then (ldL h4 (b.add 22) fun ax ay az => ldB h4 (a.add 4) fun b0 => ldI h4 (a.add 5) .u64 fun b1 => ldI h4 (a.add 6) .u64 fun b2 => aD Tryz.prog ll #[.slice ax ay az, .agg #[.bool b0, .int .u64 b1, .int .u64 b2]] h4 fun v h5 => ∃ f, v = .bool f ∧ if f = true then (ldL h5 (b.add 24) fun b3 b4 b5 => ldI h5 (a.add 8) .i64 fun b6 => aD Tryz.prog lj #[.slice b3 b4 b5, .int .i64 b6] h5 fun v h6 => ∃ g, v = .bool g ∧ Q (.bool g) h6) else (Q (.bool false) h5)) else (Q (.bool false) h4)) else (Q (.bool false) h3)
set_option maxRecDepth 100000 in
theorem DU (a b c d f g i j k l m n o p q r s t u w x y z A B C D G I J L M N O P R S U V W X Y Z a0 a1 a2 a3 a4 a5 a6 a7 a8 a9 aa ab ac ad ae : _) {Q : QT} {h : aB} (hk : yv a b c d f g i j k l m n o p q r s t u w x y z A B C D G I J L M N O P R S U V W X Y Z a0 a1 a2 a3 a4 a5 a6 a7 a8 a9 aa ab ac ad ae Q h) : aD Tryz.prog pC #[.agg #[.int .i64 a, .int .i64 b, .slice c d f, .slice g i j, .slice k l m, .slice n o p, .bool q, .int .i64 r, .int .i64 s, .int .i64 t, .string u, .int .i64 w, .int .i64 x, .slice y z A, .slice B C D, .slice G I J, .slice L M N, .int .i64 O, .int .i64 P, .int .i64 R, .int .i64 S, .slice U V W, .slice X Y Z, .slice a0 a1 a2, .slice a3 a4 a5], .agg #[.int .i64 a6, .bool a7, .int .u64 a8, .int .u64 a9, .bool aa, .int .u64 ab, .int .u64 ac, .int .i64 ad, .int .i64 ae]] h Q :=
 aS follows Tryz.func93 (Tryz.call93 _) rfl rfl [] []
 trivial
 trivial (by as_aux_lemma => kernel_rfl) hk
def uY (k l : Int) (m : Option Addr) (n o : Nat) (p : Option Addr) (q r : Nat) (s : Option Addr) (t u : Nat) (w : Option Addr) (x y : Nat) (z : Bool) (A B C : Int) (D : ByteArray) (G I : Int) (J : Option Addr) (L M : Nat) (N : Option Addr) (O P : Nat) (R : Option Addr) (S U : Nat) (V : Option Addr) (W X : Nat) (Y Z a0 a1 : Int) (Q : QT) (h : aB) : Prop :=
 alV h (.cells #[.int .i64 k, .int .i64 l, .slice m n o, .slice p q r, .slice s t u, .slice w x y, .bool z, .int .i64 A, .int .i64 B, .int .i64 C, .string D, .int .i64 G, .int .i64 I, .slice J L M, .slice N O P, .slice R S U, .slice V W X, .int .i64 Y, .int .i64 Z, .int .i64 a0, .int .i64 a1] cK) fun a h1 => alV h1 (.cells #[.string (⟨#[]⟩ : ByteArray), .bool false] bE) fun c h2 => ldI h2 a .i64 fun a2 => ldI h2 (a.add 1) .i64 fun a3 => ldL h2 (a.add 2) fun a4 a5 a6 => ldL h2 (a.add 3) fun a7 a8 a9 => ldL h2 (a.add 4) fun aa ab ac => ldL h2 (a.add 5) fun ad ae af => ldB h2 (a.add 6) fun ag => ldI h2 (a.add 7) .i64 fun ah => ldI h2 (a.add 8) .i64 fun ai => ldI h2 (a.add 9) .i64 fun aj => ldS h2 (a.add 10) fun ak => ldI h2 (a.add 11) .i64 fun al => ldI h2 (a.add 12) .i64 fun am => ldL h2 (a.add 13) fun an ao ap => ldL h2 (a.add 14) fun aq ar au => ldL h2 (a.add 15) fun av aw ax => ldL h2 (a.add 16) fun ay az b0 => ldI h2 (a.add 17) .i64 fun b1 => ldI h2 (a.add 18) .i64 fun b2 => ldI h2 (a.add 19) .i64 fun b3 => ldI h2 (a.add 20) .i64 fun b4 => aD Tryz.prog qg #[.agg #[.int .i64 a2, .int .i64 a3, .slice a4 a5 a6, .slice a7 a8 a9, .slice aa ab ac, .slice ad ae af, .bool ag, .int .i64 ah, .int .i64 ai, .int .i64 aj, .string ak, .int .i64 al, .int .i64 am, .slice an ao ap, .slice aq ar au, .slice av aw ax, .slice ay az b0, .int .i64 b1, .int .i64 b2, .int .i64 b3, .int .i64 b4]] h2 fun v h3 => ∃ b, v = .int .i64 b ∧ if (decide (b < 0)) = true then (stN h3 c [.string (⟨#[]⟩ : ByteArray), .bool false] 0 fun h4 => ldS h4 c fun f => ldB h4 (c.add 1) fun g => Q (.tuple #[.agg #[.string f, .bool g], .bool false]) h4) else (ldL h3 (a.add 14) fun b5 b6 bi => bO b b6 (nn b5 fun d => ldS h3 (d.add (b.toNat * 7)) fun b7 => ldB h3 ((d.add (b.toNat * 7)).add 1) fun b8 => ldB h3 ((d.add (b.toNat * 7)).add 2) fun b9 => ldB h3 ((d.add (b.toNat * 7)).add 3) fun ba => ldI h3 ((d.add (b.toNat * 7)).add 4) .i64 fun bb => ldI h3 ((d.add (b.toNat * 7)).add 5) .i64 fun bc => ldB h3 ((d.add (b.toNat * 7)).add 6) fun bd => alV h3 (.cells #[.string (⟨#[]⟩ : ByteArray), .bool false, .bool false, .bool false, .int .i64 0, .int .i64 0, .bool false] ei) fun i h5 => stN h5 i [.string b7, .bool b8, .bool b9, .bool ba, .int .i64 bb, .int .i64 bc, .bool bd] 0 fun h6 => ldB h6 (i.add 1) fun bf => if bf = true then (ldS h6 i fun bg => aD Tryz.prog qX #[.string bg] h6 fun v h7 => ∃ j, v = .string j ∧ stN h7 c [.string j, .bool true] 0 fun h8 => ldS h8 c fun f => ldB h8 (c.add 1) fun g => Q (.tuple #[.agg #[.string f, .bool g], .bool true]) h8) else (ldS h6 i fun bh => stN h6 c [.string bh, .bool false] 0 fun h9 => ldS h9 c fun f => ldB h9 (c.add 1) fun g => Q (.tuple #[.agg #[.string f, .bool g], .bool true]) h9)))
set_option maxRecDepth 100000 in
theorem At (a b c d f g i j k l m n o p q r s t u w x y z A B C D G I J L M N O P R S : _) {Q : QT} {h : aB} (hk : uY a b c d f g i j k l m n o p q r s t u w x y z A B C D G I J L M N O P R S Q h) : aD Tryz.prog pb #[.agg #[.int .i64 a, .int .i64 b, .slice c d f, .slice g i j, .slice k l m, .slice n o p, .bool q, .int .i64 r, .int .i64 s, .int .i64 t, .string u, .int .i64 w, .int .i64 x, .slice y z A, .slice B C D, .slice G I J, .slice L M N, .int .i64 O, .int .i64 P, .int .i64 R, .int .i64 S]] h Q :=
 aS follows Tryz.func94 (Tryz.call94 _) rfl rfl [] []
 trivial
 trivial (by as_aux_lemma => kernel_rfl) hk
def vJ (i : ByteArray) (j : Int) (b : Addr) (Q : QT) (a : Int) (h : aB) (Kn1 : Int → aB → Prop) : Prop :=
 ldS h b fun k => if (decide (a < ((k.size : Nat) : Int))) = true then (ldS h b fun l => jw l a fun c => jw i (wrap .i64 (j + a)) fun d => if (c != d) = true then (ldB h (b.add 1) fun m => if (!m) = true then (Q (.bool false) h) else (aD Tryz.prog oe #[.int .u8 c] h fun v h2 => ∃ f, v = .int .u8 f ∧ aD Tryz.prog oe #[.int .u8 d] h2 fun v h3 => ∃ g, v = .int .u8 g ∧ if (f != g) = true then (Q (.bool false) h3) else (Kn1 (wrap .i64 (a + 1)) h3))) else (Kn1 (wrap .i64 (a + 1)) h)) else (Q (.bool true) h)
def Bx (d : ByteArray) (f g i : Bool) (j k : Int) (l : Bool) (b : ByteArray) (a : Int) (Q : QT) (h : aB) : Prop :=
 alV h (.cells #[.string d, .bool f, .bool g, .bool i, .int .i64 j, .int .i64 k, .bool l] ei) fun c h1 => if (decide (a < 0)) = true then (Q (.bool false) h1) else (if (decide (a > ((b.size : Nat) : Int))) = true then (Q (.bool false) h1) else (ldS h1 c fun m => if (decide (((m.size : Nat) : Int) > (wrap .i64 (((b.size : Nat) : Int) - a)))) = true then (Q (.bool false) h1) else (aH (fun (s : Int) h Kn => vJ b a c Q s h Kn) 0 h1)))
set_option maxRecDepth 100000 in
theorem FW (d f g i j k l b c : _) {Q : QT} {h : aB} (hk : Bx d f g i j k l b c Q h) : aD Tryz.prog vu #[.agg #[.string d, .bool f, .bool g, .bool i, .int .i64 j, .int .i64 k, .bool l], .string b, .int .i64 c] h Q :=
 aS follows Tryz.func95 (Tryz.call95 _) rfl rfl [] [(10, fun e h => dS (e 1) fun b => dI .i64 (e 2) fun c => dA (e 3) fun m => dI .i64 (e 7) fun a => aH (fun (s : Int) h Kn => vJ b c m Q s h Kn) a h)]
 trivial
 ⟨⟨by kernel_rfl, fun e h he hk => by
 have F := Ag.nil (e := e)
 have ⟨b, F, hk⟩ := eS F hk
 have ⟨c, F, hk⟩ := eI F hk
 have ⟨m, F, hk⟩ := eA F hk
 have ⟨a, F, hk⟩ := eI F hk
 exact bT (s0 := a) follows (fun _ h => by cases h) he F (fun s => [(7, .int .i64 s)]) (by kernel_rfl) (F.take 1) hk (fun Kn1 e h => dI .i64 (e 7) fun a => Kn1 a h) (fun Kn1 e h hk => by
  have F := Ag.nil (e := e)
  have ⟨a, F, hk⟩ := eI F hk
  exact ⟨a, F, hk⟩)
  (fun Kn1 => []) (fun Kn1 => [])
  (fun Kn1 => trivial)
  (fun Kn1 => trivial) (fun e s h Kn1 => by as_aux_lemma => kernel_rfl)⟩, trivial⟩ (by as_aux_lemma => kernel_rfl) hk
def vQ (a : Int) (Q : QT) (h : aB) : Prop :=
 if (a == 1) = true then (Q (.func (.func 143) #[] #[]) h) else (if (a == 2) = true then (Q (.func (.func 144) #[] #[]) h) else (if (a == 3) = true then (Q (.func (.func 145) #[] #[]) h) else (if (a == 4) = true then (Q (.func (.func 146) #[] #[]) h) else (if (a == 5) = true then (Q (.func (.func 147) #[] #[]) h) else (if (a == 6) = true then (Q (.func (.func 148) #[] #[]) h) else (Q (.func (.func 149) #[] #[]) h))))))
set_option maxRecDepth 100000 in
theorem BB (a : _) {Q : QT} {h : aB} (hk : vQ a Q h) : aD Tryz.prog uM #[.int .i64 a] h Q :=
 aS follows Tryz.func100 (Tryz.call100 _) rfl rfl [] []
 trivial
 trivial (by as_aux_lemma => kernel_rfl) hk
def qo (b : ByteArray) (Q : QT) (a : Int) (h : aB) (Kn1 : Int → aB → Prop) : Prop :=
 if (decide (a < ((b.size : Nat) : Int))) = true then (jw b a fun d => aD Tryz.prog qi #[.int .u8 d] h fun v h2 => ∃ c, v = .bool c ∧ if (!c) = true then (Q (.bool false) h2) else (Kn1 (wrap .i64 (a + 1)) h2)) else (Q (.bool true) h)
def vY (a : ByteArray) (Q : QT) (h : aB) : Prop :=
 if (a.toList == (⟨#[]⟩ : ByteArray).toList) = true then (Q (.bool false) h) else (if (decide (((a.size : Nat) : Int) > 32)) = true then (Q (.bool false) h) else (jw a (0 : Int) fun c => aD Tryz.prog mF #[.int .u8 c] h fun v h1 => ∃ b, v = .bool b ∧ if (!b) = true then (Q (.bool false) h1) else (aH (fun (s : Int) h Kn => qo a Q s h Kn) 0 h1)))
set_option maxRecDepth 100000 in
theorem AQ (b : _) {Q : QT} {h : aB} (hk : vY b Q h) : aD Tryz.prog kC #[.string b] h Q :=
 aS follows Tryz.func101 (Tryz.call101 _) rfl rfl [] [(10, fun e h => dS (e 0) fun b => dI .i64 (e 3) fun a => aH (fun (s : Int) h Kn => qo b Q s h Kn) a h)]
 trivial
 ⟨⟨by kernel_rfl, fun e h he hk => by
 have F := Ag.nil (e := e)
 have ⟨b, F, hk⟩ := eS F hk
 have ⟨a, F, hk⟩ := eI F hk
 exact bT (s0 := a) follows (fun _ h => by cases h) he F (fun s => [(3, .int .i64 s)]) (by kernel_rfl) (F.take 1) hk (fun Kn1 e h => dI .i64 (e 3) fun a => Kn1 a h) (fun Kn1 e h hk => by
  have F := Ag.nil (e := e)
  have ⟨a, F, hk⟩ := eI F hk
  exact ⟨a, F, hk⟩)
  (fun Kn1 => []) (fun Kn1 => [])
  (fun Kn1 => trivial)
  (fun Kn1 => trivial) (fun e s h Kn1 => by as_aux_lemma => kernel_rfl)⟩, trivial⟩ (by as_aux_lemma => kernel_rfl) hk
def vZ (a : Int) (b : Bool) (Q : QT) (h : aB) : Prop :=
 if (decide (a ≤ 1024)) = true then (if (decide (a ≥ 0)) = true then (Q (.bool true) h) else (if b = true then (Q (.bool (decide (a ≥ (-1024)))) h) else (Q (.bool false) h))) else (Q (.bool false) h)
set_option maxRecDepth 100000 in
theorem AP (a b : _) {Q : QT} {h : aB} (hk : vZ a b Q h) : aD Tryz.prog hZ #[.int .i64 a, .bool b] h Q :=
 aS follows Tryz.func102 (Tryz.call102 _) rfl rfl [] []
 trivial
 trivial (by as_aux_lemma => kernel_rfl) hk
def rh (f : Option Addr) (c l : Nat) (Q : QT) (a : Int) (h : aB) (Kn1 : Int → aB → Prop) : Prop :=
 if (decide (a < ((c : Nat) : Int))) = true then (bO a c (nn f fun b => ldB h (b.add (a.toNat * 4)) fun g => ldS h ((b.add (a.toNat * 4)).add 1) fun i => ldI h ((b.add (a.toNat * 4)).add 2) .i64 fun j => ldI h ((b.add (a.toNat * 4)).add 3) .i64 fun k => aD Tryz.prog sk #[.agg #[.bool g, .string i, .int .i64 j, .int .i64 k]] h fun v h1 => ∃ d, v = .bool d ∧ if (!d) = true then (Q (.bool false) h1) else (Kn1 (wrap .i64 (a + 1)) h1))) else (Q (.bool true) h)
def xf (a : Option Addr) (b c : Nat) (Q : QT) (h : aB) : Prop :=
 aH (fun (s : Int) h Kn => rh a b c Q s h Kn) 0 h
set_option maxRecDepth 100000 in
theorem Cb (b c d : _) {Q : QT} {h : aB} (hk : xf b c d Q h) : aD Tryz.prog nH #[.slice b c d] h Q :=
 aS follows Tryz.func103 (Tryz.call103 _) rfl rfl [] [(6, fun e h => dL (e 0) fun b c d => dI .i64 (e 3) fun a => aH (fun (s : Int) h Kn => rh b c d Q s h Kn) a h)]
 trivial
 ⟨⟨by kernel_rfl, fun e h he hk => by
 have F := Ag.nil (e := e)
 have ⟨b, c, d, F, hk⟩ := eL F hk
 have ⟨a, F, hk⟩ := eI F hk
 exact bT (s0 := a) follows (fun _ h => by cases h) he F (fun s => [(3, .int .i64 s)]) (by kernel_rfl) (F.take 1) hk (fun Kn1 e h => dI .i64 (e 3) fun a => Kn1 a h) (fun Kn1 e h hk => by
  have F := Ag.nil (e := e)
  have ⟨a, F, hk⟩ := eI F hk
  exact ⟨a, F, hk⟩)
  (fun Kn1 => []) (fun Kn1 => [])
  (fun Kn1 => trivial)
  (fun Kn1 => trivial) (fun e s h Kn1 => by as_aux_lemma => kernel_rfl)⟩, trivial⟩ (by as_aux_lemma => kernel_rfl) hk
def rV (b c d f : Int) (Q : QT) (h : aB) : Prop :=
 alV h (.cells #[.int .i64 b, .int .i64 c, .int .i64 d, .int .i64 f] uO) fun a h1 => ldI h1 a .i64 fun g => if (g == 0) = true then (ldI h1 a .i64 fun i => ldI h1 (a.add 1) .i64 fun j => ldI h1 (a.add 2) .i64 fun k => ldI h1 (a.add 3) .i64 fun l => Q (.bool ((i == (0 : Int)) && ((j == (0 : Int)) && ((k == (0 : Int)) && ((l == (0 : Int)) && true))))) h1) else (ldI h1 a .i64 fun m => if (decide (m ≥ 1)) = true then (ldI h1 a .i64 fun n => if (decide (n ≤ 3)) = true then (ldI h1 (a.add 1) .i64 fun o => if (decide (o ≥ 1)) = true then (ldI h1 (a.add 1) .i64 fun p => if (decide (p ≤ 3)) = true then (ldI h1 (a.add 2) .i64 fun q => if (decide (q ≥ 1)) = true then (ldI h1 (a.add 2) .i64 fun r => if (decide (r ≤ 65536)) = true then (ldI h1 (a.add 3) .i64 fun s => if (decide (s ≥ 1)) = true then (ldI h1 (a.add 3) .i64 fun t => Q (.bool (decide (t ≤ 86400))) h1) else (Q (.bool false) h1)) else (Q (.bool false) h1)) else (Q (.bool false) h1)) else (Q (.bool false) h1)) else (Q (.bool false) h1)) else (Q (.bool false) h1)) else (Q (.bool false) h1))
set_option maxRecDepth 100000 in
theorem x8 (a b c d : _) {Q : QT} {h : aB} (hk : rV a b c d Q h) : aD Tryz.prog mV #[.agg #[.int .i64 a, .int .i64 b, .int .i64 c, .int .i64 d]] h Q :=
 aS follows Tryz.func104 (Tryz.call104 _) rfl rfl [] []
 trivial
 trivial (by as_aux_lemma => kernel_rfl) hk
def qv (m : Bool) (n o p : Int) (Q : QT) (h : aB) : Prop :=
 alV h (.cells #[.bool m, .int .u64 n, .int .u64 o, .int .i64 p] yo) fun a h1 => ldB h1 a fun q => ldI h1 (a.add 1) .u64 fun r => ldI h1 (a.add 2) .u64 fun s => aD Tryz.prog qT #[.agg #[.bool q, .int .u64 r, .int .u64 s]] h1 fun v h2 => ∃ b, v = .bool b ∧ if b = true then (ldI h2 (a.add 3) .i64 fun t => if (decide (t ≥ 0)) = true then (ldI h2 (a.add 3) .i64 fun c => ldB h2 a fun u => ldI h2 (a.add 1) .u64 fun w => ldI h2 (a.add 2) .u64 fun x => aD Tryz.prog om #[.agg #[.bool u, .int .u64 w, .int .u64 x]] h2 fun v h3 => ∃ d, v = .int .i64 d ∧ (ldI h3 (a.add 3) .i64 fun y => (.int .i64 y : Value) = .int .i64 c) ∧ if (decide (c ≤ d)) = true then (ldB h3 a fun z => ldI h3 (a.add 1) .u64 fun A => ldI h3 (a.add 2) .u64 fun B => ldI h3 (a.add 3) .i64 fun C => ldB h3 a fun f => ldI h3 (a.add 1) .u64 fun g => ldI h3 (a.add 2) .u64 fun i => aD Tryz.prog sL #[.agg #[.bool z, .int .u64 A, .int .u64 B], .int .i64 C, .bool false] h3 fun v h4 => ∃ j k l, v = .agg #[.bool j, .int .u64 k, .int .u64 l] ∧ (ldB h4 a fun D => ldI h4 (a.add 1) .u64 fun G => ldI h4 (a.add 2) .u64 fun I => (.agg #[.bool D, .int .u64 G, .int .u64 I] : Value) = .agg #[.bool f, .int .u64 g, .int .u64 i]) ∧ Q (.bool ((j == f) && ((k == g) && ((l == i) && true)))) h4) else (Q (.bool false) h3)) else (Q (.bool false) h2)) else (Q (.bool false) h2)
set_option maxRecDepth 100000 in
theorem wO (a b c d : _) {Q : QT} {h : aB} (hk : qv a b c d Q h) : aD Tryz.prog ly #[.agg #[.bool a, .int .u64 b, .int .u64 c, .int .i64 d]] h Q :=
 aS follows Tryz.func105 (Tryz.call105 _) rfl rfl [] []
 trivial
 trivial (by as_aux_lemma => kernel_rfl) hk
def kN (l : Addr) (m : Option Addr) (n S : Nat) (o : Int) (Q : QT) (b a : Int) (h : aB) (Kn1 : Int × Int → aB → Prop) : Prop :=
 if (decide (a < o)) = true then (bO a n (nn m fun c => ldS h (c.add (a.toNat * 7)) fun p => ldB h ((c.add (a.toNat * 7)).add 1) fun q => ldB h ((c.add (a.toNat * 7)).add 2) fun r => ldB h ((c.add (a.toNat * 7)).add 3) fun s => ldI h ((c.add (a.toNat * 7)).add 4) .i64 fun t => ldI h ((c.add (a.toNat * 7)).add 5) .i64 fun u => ldB h ((c.add (a.toNat * 7)).add 6) fun w => alV h (.cells #[.string (⟨#[]⟩ : ByteArray), .bool false, .bool false, .bool false, .int .i64 0, .int .i64 0, .bool false] ei) fun f h2 => stN h2 f [.string p, .bool q, .bool r, .bool s, .int .i64 t, .int .i64 u, .bool w] 0 fun h3 => ldB h3 (f.add 2) fun x => if x = true then (Kn1 (b, wrap .i64 (a + 1)) h3) else (ldS h3 f fun y => if (y.toList == (⟨#[]⟩ : ByteArray).toList) = true then (Kn1 (b, wrap .i64 (a + 1)) h3) else (ldB h3 (f.add 6) fun z => if z = true then (Q (.int .i64 a) h3) else (if (decide (b < 0)) = true then (Kn1 (a, wrap .i64 (a + 1)) h3) else (ldL h3 (l.add 14) fun A B U => bO b B (nn A fun d => ldS h3 (d.add (b.toNat * 7)) fun C => ldB h3 ((d.add (b.toNat * 7)).add 1) fun D => ldB h3 ((d.add (b.toNat * 7)).add 2) fun G => ldB h3 ((d.add (b.toNat * 7)).add 3) fun I => ldI h3 ((d.add (b.toNat * 7)).add 4) .i64 fun J => ldI h3 ((d.add (b.toNat * 7)).add 5) .i64 fun L => ldB h3 ((d.add (b.toNat * 7)).add 6) fun M => alV h3 (.cells #[.string (⟨#[]⟩ : ByteArray), .bool false, .bool false, .bool false, .int .i64 0, .int .i64 0, .bool false] ei) fun g h4 => stN h4 g [.string C, .bool D, .bool G, .bool I, .int .i64 J, .int .i64 L, .bool M] 0 fun h5 => ldS h5 f fun N => ldS h5 g fun k => aD Tryz.prog jj #[.string N] h5 fun v h6 => ∃ i, v = .int .i64 i ∧ (ldS h6 g fun O => (.string O : Value) = .string k) ∧ aD Tryz.prog jj #[.string k] h6 fun v h7 => ∃ j, v = .int .i64 j ∧ if (decide (i > j)) = true then (Kn1 (a, wrap .i64 (a + 1)) h7) else (if (i == j) = true then (ldS h7 f fun P => ldS h7 g fun R => if (decide (((P.size : Nat) : Int) > ((R.size : Nat) : Int))) = true then (Kn1 (a, wrap .i64 (a + 1)) h7) else (Kn1 (b, wrap .i64 (a + 1)) h7)) else (Kn1 (b, wrap .i64 (a + 1)) h7))))))))) else (Q (.int .i64 b) h)
def pN (c d : Int) (f : Option Addr) (g i : Nat) (j : Option Addr) (k l : Nat) (m : Option Addr) (n o : Nat) (p : Option Addr) (q r : Nat) (t : Bool) (u w x : Int) (y : ByteArray) (z A : Int) (B : Option Addr) (C D : Nat) (G : Option Addr) (I J : Nat) (L : Option Addr) (M N : Nat) (O : Option Addr) (P R : Nat) (S U V W : Int) (Q : QT) (h : aB) : Prop :=
 alV h (.cells #[.int .i64 c, .int .i64 d, .slice f g i, .slice j k l, .slice m n o, .slice p q r, .bool t, .int .i64 u, .int .i64 w, .int .i64 x, .string y, .int .i64 z, .int .i64 A, .slice B C D, .slice G I J, .slice L M N, .slice O P R, .int .i64 S, .int .i64 U, .int .i64 V, .int .i64 W] cK) fun a h1 => ldL h1 (a.add 14) fun X b Y => aH (fun (s : Int × Int) h Kn => kN a X b Y ((b : Nat) : Int) Q s.1 s.2 h Kn) ((-1), 0) h1
set_option maxRecDepth 100000 in
theorem vS (c d f g i j k l m n o p q r t u w x y z A B C D G I J L M N O P R S U V W : _) {Q : QT} {h : aB} (hk : pN c d f g i j k l m n o p q r t u w x y z A B C D G I J L M N O P R S U V W Q h) : aD Tryz.prog kV #[.agg #[.int .i64 c, .int .i64 d, .slice f g i, .slice j k l, .slice m n o, .slice p q r, .bool t, .int .i64 u, .int .i64 w, .int .i64 x, .string y, .int .i64 z, .int .i64 A, .slice B C D, .slice G I J, .slice L M N, .slice O P R, .int .i64 S, .int .i64 U, .int .i64 V, .int .i64 W]] h Q :=
 aS follows Tryz.func106 (Tryz.call106 _) rfl rfl [] [(8, fun e h => dA (e 1) fun X => dL (e 10) fun Y Z a0 => dI .i64 (e 11) fun a1 => dI .i64 (e 3) fun a => dI .i64 (e 12) fun b => aH (fun (s : Int × Int) h Kn => kN X Y Z a0 a1 Q s.1 s.2 h Kn) (a, b) h)]
 trivial
 ⟨⟨by kernel_rfl, fun e h he hk => by
 have F := Ag.nil (e := e)
 have ⟨X, F, hk⟩ := eA F hk
 have ⟨Y, Z, a0, F, hk⟩ := eL F hk
 have ⟨a1, F, hk⟩ := eI F hk
 have ⟨a, F, hk⟩ := eI F hk
 have ⟨b, F, hk⟩ := eI F hk
 exact bT (s0 := (a, b)) follows (fun _ h => by cases h) he F (fun s => [(12, .int .i64 s.2), (3, .int .i64 s.1)]) (by kernel_rfl) (F.take 2) hk (fun Kn1 e h => dI .i64 (e 3) fun a => dI .i64 (e 12) fun b => Kn1 (a, b) h) (fun Kn1 e h hk => by
  have F := Ag.nil (e := e)
  have ⟨a, F, hk⟩ := eI F hk
  have ⟨b, F, hk⟩ := eI F hk
  exact ⟨(a, b), F, hk⟩)
  (fun Kn1 => []) (fun Kn1 => [])
  (fun Kn1 => trivial)
  (fun Kn1 => trivial) (fun e s h Kn1 => by as_aux_lemma => kernel_rfl)⟩, trivial⟩ (by as_aux_lemma => kernel_rfl) hk
def uJ (b : ByteArray) (Q : QT) (h : aB) : Prop :=
 aD Tryz.prog gP #[.string b] h fun v h1 => ∃ a, v = .string a ∧ Q (.string a) h1
set_option maxRecDepth 100000 in
theorem Af (a : _) {Q : QT} {h : aB} (hk : uJ a Q h) : aD Tryz.prog l7 #[.string a] h Q :=
 aS follows Tryz.func107 (Tryz.call107 _) rfl rfl [] []
 trivial
 trivial (by as_aux_lemma => kernel_rfl) hk
def lR (c : Option Addr) (d g : Nat) (i : Option Addr) (j n : Nat) (k : Int) (Q : QT) (a : Int) (h : aB) (Kn1 : Int → aB → Prop) : Prop :=
 if (decide (a < k)) = true then (bO a j (nn i fun l => ldI h (l.add (a.toNat * 1)) .u8 fun b => if (decide (b ≥ 65)) = true then (if (decide (b ≤ 90)) = true then (bO a d (nn c fun m => st1 h (m.add (a.toNat * 1)) (.int .u8 (wrap .u8 (b + 32))) fun h2 => Kn1 (wrap .i64 (a + 1)) h2)) else (Kn1 (wrap .i64 (a + 1)) h)) else (Kn1 (wrap .i64 (a + 1)) h))) else (kA Tryz.prog aL bW (.slice c d g) h fun v h3 => ∃ f, v = .string f ∧ Q (.string f) h3)
def qz (d : ByteArray) (Q : QT) (h : aB) : Prop :=
 kA Tryz.prog bW aL (.string d) h fun v h1 => ∃ b a c, v = .slice b a c ∧ aH (fun (s : Int) h Kn => lR b a c b a c ((a : Nat) : Int) Q s h Kn) 0 h1
set_option maxRecDepth 100000 in
theorem wP (b : _) {Q : QT} {h : aB} (hk : qz b Q h) : aD Tryz.prog lF #[.string b] h Q :=
 aS follows Tryz.func108 (Tryz.call108 _) rfl rfl [] [(8, fun e h => dL (e 3) fun c d f => dL (e 8) fun g i j => dI .i64 (e 9) fun k => dI .i64 (e 10) fun a => aH (fun (s : Int) h Kn => lR c d f g i j k Q s h Kn) a h)]
 trivial
 ⟨⟨by kernel_rfl, fun e h he hk => by
 have F := Ag.nil (e := e)
 have ⟨c, d, f, F, hk⟩ := eL F hk
 have ⟨g, i, j, F, hk⟩ := eL F hk
 have ⟨k, F, hk⟩ := eI F hk
 have ⟨a, F, hk⟩ := eI F hk
 exact bT (s0 := a) follows (fun _ h => by cases h) he F (fun s => [(10, .int .i64 s)]) (by kernel_rfl) (F.take 1) hk (fun Kn1 e h => dI .i64 (e 10) fun a => Kn1 a h) (fun Kn1 e h hk => by
  have F := Ag.nil (e := e)
  have ⟨a, F, hk⟩ := eI F hk
  exact ⟨a, F, hk⟩)
  (fun Kn1 => []) (fun Kn1 => [])
  (fun Kn1 => trivial)
  (fun Kn1 => trivial) (fun e s h Kn1 => by as_aux_lemma => kernel_rfl)⟩, trivial⟩ (by as_aux_lemma => kernel_rfl) hk
def se (a : Int) (Q : QT) (h : aB) : Prop :=
 if (decide (65 ≤ a)) = true then (if (decide (a ≤ 90)) = true then (Q (.int .u8 (wrap .u8 ((wrap .u8 (a + 97)) - 65))) h) else (Q (.int .u8 a) h)) else (Q (.int .u8 a) h)
set_option maxRecDepth 100000 in
theorem xN (a : _) {Q : QT} {h : aB} (hk : se a Q h) : aD Tryz.prog ke #[.int .u8 a] h Q :=
 aS follows Tryz.func109 (Tryz.call109 _) rfl rfl [] []
 trivial
 trivial (by as_aux_lemma => kernel_rfl) hk
def n8 (l : Value) (m : Option Addr) (n r : Nat) (o : Int) (Q : QT) (b : Option Addr) (c d : Nat) (a : Int) (h : aB) (Kn1 : (Option Addr) × Nat × Nat × Int → aB → Prop) : Prop :=
 if (decide (a < o)) = true then (bO a n (nn m fun p => ldI h (p.add (a.toNat * 1)) .i64 fun f => my Tryz.prog l #[.int .i64 f] h fun v h1 => ∃ g, v = .bool g ∧ if g = true then (alV h1 (.cells #[.int .i64 f] oF) fun q h2 => cQ Tryz.prog .append #[bG, bG] bG #[false, false] #[.slice b c d, .slice (some q) 1 1] h2 fun v h3 => ∃ i j k, v = .slice i j k ∧ Kn1 (i, j, k, wrap .i64 (a + 1)) h3) else (Kn1 (b, c, d, wrap .i64 (a + 1)) h1))) else (Q (.slice b c d) h)
def tm (b : Option Addr) (a c : Nat) (d : Value) (Q : QT) (h : aB) : Prop :=
 aH (fun (s : (Option Addr) × Nat × Nat × Int) h Kn => n8 d b a c ((a : Nat) : Int) Q s.1 s.2.1 s.2.2.1 s.2.2.2 h Kn) (none, 0, 0, 0) h
set_option maxRecDepth 100000 in
theorem zp (g i j f : _) {Q : QT} {h : aB} (hk : tm g i j f Q h) : aD Tryz.prog nV #[.slice g i j, f] h Q :=
 aS follows Tryz.func110 (Tryz.call110 _) rfl rfl [] [(8, fun e h => dV (e 1) fun f => dL (e 8) fun k l m => dI .i64 (e 9) fun n => dL (e 5) fun a b c => dI .i64 (e 10) fun d => aH (fun (s : (Option Addr) × Nat × Nat × Int) h Kn => n8 f k l m n Q s.1 s.2.1 s.2.2.1 s.2.2.2 h Kn) (a, b, c, d) h)]
 trivial
 ⟨⟨by kernel_rfl, fun e h he hk => by
 have F := Ag.nil (e := e)
 have ⟨f, F, hk⟩ := eV F hk
 have ⟨k, l, m, F, hk⟩ := eL F hk
 have ⟨n, F, hk⟩ := eI F hk
 have ⟨a, b, c, F, hk⟩ := eL F hk
 have ⟨d, F, hk⟩ := eI F hk
 exact bT (s0 := (a, b, c, d)) follows (fun _ h => by cases h) he F (fun s => [(10, .int .i64 s.2.2.2), (5, .slice s.1 s.2.1 s.2.2.1)]) (by kernel_rfl) (F.take 2) hk (fun Kn1 e h => dL (e 5) fun a b c => dI .i64 (e 10) fun d => Kn1 (a, b, c, d) h) (fun Kn1 e h hk => by
  have F := Ag.nil (e := e)
  have ⟨a, b, c, F, hk⟩ := eL F hk
  have ⟨d, F, hk⟩ := eI F hk
  exact ⟨(a, b, c, d), F, hk⟩)
  (fun Kn1 => []) (fun Kn1 => [])
  (fun Kn1 => trivial)
  (fun Kn1 => trivial) (fun e s h Kn1 => by as_aux_lemma => kernel_rfl)⟩, trivial⟩ (by as_aux_lemma => kernel_rfl) hk
def mB (b : Option Addr) (c : Int) (Q : QT) (h : aB) : Prop :=
 nn b fun i => ldP h i fun j => nn j fun k => ldL h (k.add 1) fun l m C => bO c m (nn l fun d => ldS h (d.add (c.toNat * 2)) fun n => ldB h ((d.add (c.toNat * 2)).add 1) fun o => alV h (.cells #[.string (⟨#[]⟩ : ByteArray), .bool false] bE) fun a h1 => stN h1 a [.string n, .bool o] 0 fun h2 => ldB h2 (a.add 1) fun p => if p = true then (Q (.bool true) h2) else (nn b fun q => ldL h2 (q.add 3) fun r s t => nn b fun u => ldL h2 (u.add 3) fun D w G => ldS h2 a fun x => fM 1 r s t (some (wrap .i64 (((w : Nat) : Int) - ((x.size : Nat) : Int)))) none none fun y z A => ldS h2 a fun f => kA Tryz.prog aL bW (.slice y z A) h2 fun v h3 => ∃ g, v = .string g ∧ (ldS h3 a fun B => (.string B : Value) = .string f) ∧ Q (.bool (g.toList == f.toList)) h3))
set_option maxRecDepth 100000 in
theorem sO (a b : _) {Q : QT} {h : aB} (hk : mB a b Q h) : aD Tryz.prog mf #[.pointer a, .int .i64 b] h Q :=
 aS follows Tryz.func111 (Tryz.call111 _) rfl rfl [] []
 trivial
 trivial (by as_aux_lemma => kernel_rfl) hk
def jT (l : ByteArray) (d : Option Addr) (f g : Nat) (i j : Int) (Q : QT) (Kn1 : (Option Addr) × Nat × Nat × Int → aB → Prop) (h : aB) : Prop :=
 alV h (.cells #[.int .u8 j] gK) fun k h3 => cQ Tryz.prog .append #[aL, aL] aL #[false, false] #[.slice d f g, .slice (some k) 1 1] h3 fun v h4 => ∃ a b c, v = .slice a b c ∧ Kn1 (a, b, c, wrap .i64 (i + 1)) h4
def rj (a : ByteArray) (Q : QT) (d : Option Addr) (f g : Nat) (b : Int) (h : aB) (Kn1 : (Option Addr) × Nat × Nat × Int → aB → Prop) : Prop :=
 if (decide (b < ((a.size : Nat) : Int))) = true then (jw a b fun c => if (decide (c ≥ 65)) = true then (if (decide (c ≤ 90)) = true then (jT a d f g b (wrap .u8 (c + 32)) Q Kn1 h) else (jT a d f g b c Q Kn1 h)) else (jT a d f g b c Q Kn1 h)) else (kA Tryz.prog aL bW (.slice d f g) h fun v h2 => ∃ i, v = .string i ∧ Q (.string i) h2)
def w6 (a : ByteArray) (Q : QT) (h : aB) : Prop :=
 alV h (.cells #[] gK) fun b h1 => aH (fun (s : (Option Addr) × Nat × Nat × Int) h Kn => rj a Q s.1 s.2.1 s.2.2.1 s.2.2.2 h Kn) (some b, 0, 0, 0) h1
set_option maxRecDepth 100000 in
theorem B7 (f : _) {Q : QT} {h : aB} (hk : w6 f Q h) : aD Tryz.prog rD #[.string f] h Q :=
 aS follows Tryz.func113 (Tryz.call113 _) rfl rfl [] [(8, fun e h => dS (e 0) fun f => dL (e 3) fun a b c => dI .i64 (e 4) fun d => aH (fun (s : (Option Addr) × Nat × Nat × Int) h Kn => rj f Q s.1 s.2.1 s.2.2.1 s.2.2.2 h Kn) (a, b, c, d) h)]
 trivial
 ⟨⟨by kernel_rfl, fun e h he hk => by
 have F := Ag.nil (e := e)
 have ⟨f, F, hk⟩ := eS F hk
 have ⟨a, b, c, F, hk⟩ := eL F hk
 have ⟨d, F, hk⟩ := eI F hk
 exact bT (s0 := (a, b, c, d)) follows (fun _ h => by cases h) he F (fun s => [(4, .int .i64 s.2.2.2), (3, .slice s.1 s.2.1 s.2.2.1)]) (by kernel_rfl) (F.take 2) hk (fun Kn1 e h => dL (e 3) fun a b c => dI .i64 (e 4) fun d => Kn1 (a, b, c, d) h) (fun Kn1 e h hk => by
  have F := Ag.nil (e := e)
  have ⟨a, b, c, F, hk⟩ := eL F hk
  have ⟨d, F, hk⟩ := eI F hk
  exact ⟨(a, b, c, d), F, hk⟩)
  (fun Kn1 => [(18, fun e h => dS (e 0) fun f => dL (e 3) fun a b c => dI .i64 (e 4) fun d => dI .u8 (e 5) fun g => jT f a b c d g Q Kn1 h)]) (fun Kn1 => [])
  (fun Kn1 => ⟨fun e h _ hk => by
 have F := Ag.nil (e := e)
 have ⟨f, F, hk⟩ := eS F hk
 have ⟨a, b, c, F, hk⟩ := eL F hk
 have ⟨d, F, hk⟩ := eI F hk
 have ⟨g, F, hk⟩ := eI F hk
 exact fX F (by as_aux_lemma => kernel_rfl) hk, trivial⟩)
  (fun Kn1 => trivial) (fun e s h Kn1 => by as_aux_lemma => kernel_rfl)⟩, trivial⟩ (by as_aux_lemma => kernel_rfl) hk
def q8 (b : ByteArray) (Q : QT) (c : Option Addr) (d f : Nat) (a : Int) (h : aB) (Kn1 : (Option Addr) × Nat × Nat × Int → aB → Prop) : Prop :=
 if (decide (a < ((b.size : Nat) : Int))) = true then (jw b a fun l => if (l != 9) = true then (jw b a fun m => if (m != 10) = true then (jw b a fun n => if (n != 13) = true then (jw b a fun o => if (o != 32) = true then (jw b a fun p => alV h (.cells #[.int .u8 p] gK) fun q h2 => cQ Tryz.prog .append #[aL, aL] aL #[false, false] #[.slice c d f, .slice (some q) 1 1] h2 fun v h3 => ∃ g i j, v = .slice g i j ∧ Kn1 (g, i, j, wrap .i64 (a + 1)) h3) else (Kn1 (c, d, f, wrap .i64 (a + 1)) h)) else (Kn1 (c, d, f, wrap .i64 (a + 1)) h)) else (Kn1 (c, d, f, wrap .i64 (a + 1)) h)) else (Kn1 (c, d, f, wrap .i64 (a + 1)) h)) else (kA Tryz.prog aL bW (.slice c d f) h fun v h4 => ∃ k, v = .string k ∧ Q (.string k) h4)
def xb (a : ByteArray) (Q : QT) (h : aB) : Prop :=
 alV h (.cells #[] gK) fun b h1 => aH (fun (s : (Option Addr) × Nat × Nat × Int) h Kn => q8 a Q s.1 s.2.1 s.2.2.1 s.2.2.2 h Kn) (some b, 0, 0, 0) h1
set_option maxRecDepth 100000 in
theorem B9 (f : _) {Q : QT} {h : aB} (hk : xb f Q h) : aD Tryz.prog qR #[.string f] h Q :=
 aS follows Tryz.func114 (Tryz.call114 _) rfl rfl [] [(8, fun e h => dS (e 0) fun f => dL (e 3) fun a b c => dI .i64 (e 4) fun d => aH (fun (s : (Option Addr) × Nat × Nat × Int) h Kn => q8 f Q s.1 s.2.1 s.2.2.1 s.2.2.2 h Kn) (a, b, c, d) h)]
 trivial
 ⟨⟨by kernel_rfl, fun e h he hk => by
 have F := Ag.nil (e := e)
 have ⟨f, F, hk⟩ := eS F hk
 have ⟨a, b, c, F, hk⟩ := eL F hk
 have ⟨d, F, hk⟩ := eI F hk
 exact bT (s0 := (a, b, c, d)) follows (fun _ h => by cases h) he F (fun s => [(4, .int .i64 s.2.2.2), (3, .slice s.1 s.2.1 s.2.2.1)]) (by kernel_rfl) (F.take 2) hk (fun Kn1 e h => dL (e 3) fun a b c => dI .i64 (e 4) fun d => Kn1 (a, b, c, d) h) (fun Kn1 e h hk => by
  have F := Ag.nil (e := e)
  have ⟨a, b, c, F, hk⟩ := eL F hk
  have ⟨d, F, hk⟩ := eI F hk
  exact ⟨(a, b, c, d), F, hk⟩)
  (fun Kn1 => []) (fun Kn1 => [])
  (fun Kn1 => trivial)
  (fun Kn1 => trivial) (fun e s h Kn1 => by as_aux_lemma => kernel_rfl)⟩, trivial⟩ (by as_aux_lemma => kernel_rfl) hk
def fV (f : ByteArray) (g : Option Addr) (i j : Nat) (a : Int) (Q : QT) (Kn1 : (Option Addr) × Nat × Nat × Int → aB → Prop) (h : aB) : Prop :=
 jw f a fun k => alV h (.cells #[.int .u8 k] gK) fun l h9 => cQ Tryz.prog .append #[aL, aL] aL #[false, false] #[.slice g i j, .slice (some l) 1 1] h9 fun v h10 => ∃ b c d, v = .slice b c d ∧ Kn1 (b, c, d, wrap .i64 (a + 1)) h10
def oY (b : ByteArray) (Q : QT) (c : Option Addr) (d f : Nat) (a : Int) (h : aB) (Kn1 : (Option Addr) × Nat × Nat × Int → aB → Prop) : Prop :=
 if (decide (a < ((b.size : Nat) : Int))) = true then (jw b a fun p => if (p == 37) = true then (if (decide ((wrap .i64 (a + 2)) < ((b.size : Nat) : Int))) = true then (jw b (wrap .i64 (a + 1)) fun q => aD Tryz.prog iH #[.int .u8 q] h fun v h2 => ∃ g, v = .int .i64 g ∧ if (decide (g ≥ 0)) = true then (jw b (wrap .i64 (a + 2)) fun r => aD Tryz.prog iH #[.int .u8 r] h2 fun v h3 => ∃ i, v = .int .i64 i ∧ if (decide (i ≥ 0)) = true then (jw b (wrap .i64 (a + 1)) fun s => jw b (wrap .i64 (a + 2)) fun t => aD Tryz.prog iH #[.int .u8 s] h3 fun v h4 => ∃ j, v = .int .i64 j ∧ aD Tryz.prog iH #[.int .u8 t] h4 fun v h5 => ∃ k, v = .int .i64 k ∧ alV h5 (.cells #[.int .u8 (wrap .u8 (wrap .i64 ((wrap .i64 (j * 16)) + k)))] gK) fun u h6 => cQ Tryz.prog .append #[aL, aL] aL #[false, false] #[.slice c d f, .slice (some u) 1 1] h6 fun v h7 => ∃ l m n, v = .slice l m n ∧ Kn1 (l, m, n, wrap .i64 ((wrap .i64 (a + 2)) + 1)) h7) else (fV b c d f a Q Kn1 h3)) else (fV b c d f a Q Kn1 h2)) else (fV b c d f a Q Kn1 h)) else (fV b c d f a Q Kn1 h)) else (kA Tryz.prog aL bW (.slice c d f) h fun v h8 => ∃ o, v = .string o ∧ Q (.string o) h8)
def u4 (a : ByteArray) (Q : QT) (h : aB) : Prop :=
 alV h (.cells #[] gK) fun b h1 => aH (fun (s : (Option Addr) × Nat × Nat × Int) h Kn => oY a Q s.1 s.2.1 s.2.2.1 s.2.2.2 h Kn) (some b, 0, 0, 0) h1
set_option maxRecDepth 100000 in
theorem Aj (f : _) {Q : QT} {h : aB} (hk : u4 f Q h) : aD Tryz.prog pB #[.string f] h Q :=
 aS follows Tryz.func115 (Tryz.call115 _) rfl rfl [] [(8, fun e h => dS (e 0) fun f => dL (e 3) fun a b c => dI .i64 (e 4) fun d => aH (fun (s : (Option Addr) × Nat × Nat × Int) h Kn => oY f Q s.1 s.2.1 s.2.2.1 s.2.2.2 h Kn) (a, b, c, d) h)]
 trivial
 ⟨⟨by kernel_rfl, fun e h he hk => by
 have F := Ag.nil (e := e)
 have ⟨f, F, hk⟩ := eS F hk
 have ⟨a, b, c, F, hk⟩ := eL F hk
 have ⟨d, F, hk⟩ := eI F hk
 exact bT (s0 := (a, b, c, d)) follows (fun _ h => by cases h) he F (fun s => [(4, .int .i64 s.2.2.2), (3, .slice s.1 s.2.1 s.2.2.1)]) (by kernel_rfl) (F.take 2) hk (fun Kn1 e h => dL (e 3) fun a b c => dI .i64 (e 4) fun d => Kn1 (a, b, c, d) h) (fun Kn1 e h hk => by
  have F := Ag.nil (e := e)
  have ⟨a, b, c, F, hk⟩ := eL F hk
  have ⟨d, F, hk⟩ := eI F hk
  exact ⟨(a, b, c, d), F, hk⟩)
  (fun Kn1 => [(18, fun e h => dS (e 0) fun f => dL (e 3) fun a b c => dI .i64 (e 4) fun d => fV f a b c d Q Kn1 h)]) (fun Kn1 => [])
  (fun Kn1 => ⟨fun e h _ hk => by
 have F := Ag.nil (e := e)
 have ⟨f, F, hk⟩ := eS F hk
 have ⟨a, b, c, F, hk⟩ := eL F hk
 have ⟨d, F, hk⟩ := eI F hk
 exact fX F (by as_aux_lemma => kernel_rfl) hk, trivial⟩)
  (fun Kn1 => trivial) (fun e s h Kn1 => by as_aux_lemma => kernel_rfl)⟩, trivial⟩ (by as_aux_lemma => kernel_rfl) hk
def qb (n : ByteArray) (d : Option Addr) (f g : Nat) (b a i c : Int) (Q : QT) (Kn1 : (Option Addr) × Nat × Nat × Int × Int × Int → aB → Prop) (h : aB) : Prop :=
 if (decide (c < 0)) = true then (Kn1 (d, f, g, b, a, wrap .i64 (i + 1)) h) else (if (decide ((wrap .i64 (a + 6)) ≥ 8)) = true then (0 ≤ (wrap .i64 ((wrap .i64 (a + 6)) - 8)) ∧ alV h (.cells #[.int .u8 (wrap .u8 (Int.fdiv (wrap .i64 ((wrap .i64 (b * 64)) + c)) (2 ^ (min (Int.toNat (wrap .i64 ((wrap .i64 (a + 6)) - 8))) (IntKind.bits .i64)))))] gK) fun m h4 => cQ Tryz.prog .append #[aL, aL] aL #[false, false] #[.slice d f g, .slice (some m) 1 1] h4 fun v h5 => ∃ j k l, v = .slice j k l ∧ 0 ≤ (wrap .i64 ((wrap .i64 (a + 6)) - 8)) ∧ (wrap .i64 (1 * 2 ^ (min (Int.toNat (wrap .i64 ((wrap .i64 (a + 6)) - 8))) (IntKind.bits .i64)))) ≠ 0 ∧ Kn1 (j, k, l, Int.tmod (wrap .i64 ((wrap .i64 (b * 64)) + c)) (wrap .i64 (1 * 2 ^ (min (Int.toNat (wrap .i64 ((wrap .i64 (a + 6)) - 8))) (IntKind.bits .i64)))), wrap .i64 ((wrap .i64 (a + 6)) - 8), wrap .i64 (i + 1)) h5) else (Kn1 (d, f, g, wrap .i64 ((wrap .i64 (b * 64)) + c), wrap .i64 (a + 6), wrap .i64 (i + 1)) h))
def pZ (b : ByteArray) (f : Option Addr) (g i : Nat) (j k c : Int) (Q : QT) (Kn1 : (Option Addr) × Nat × Nat × Int × Int × Int → aB → Prop) (d a : Int) (h : aB) (Kn2 : Int × Int → aB → Prop) : Prop :=
 if (decide (a < 64)) = true then (jw (⟨#[65, 66, 67, 68, 69, 70, 71, 72, 73, 74, 75, 76, 77, 78, 79, 80, 81, 82, 83, 84, 85, 86, 87, 88, 89, 90, 97, 98, 99, 100, 101, 102, 103, 104, 105, 106, 107, 108, 109, 110, 111, 112, 113, 114, 115, 116, 117, 118, 119, 120, 121, 122, 48, 49, 50, 51, 52, 53, 54, 55, 56, 57, 43, 47]⟩ : ByteArray) a fun l => jw b c fun m => if (l == m) = true then (Kn2 (a, wrap .i64 (a + 1)) h) else (Kn2 (d, wrap .i64 (a + 1)) h)) else (qb b f g i j k c d Q Kn1 h)
def qe (b : ByteArray) (Q : QT) (c : Option Addr) (d f : Nat) (i j g : Int) (h : aB) (Kn1 : (Option Addr) × Nat × Nat × Int × Int × Int → aB → Prop) : Prop :=
 if (decide (g < ((b.size : Nat) : Int))) = true then (jw b g fun k => if (k != 61) = true then (aH (fun (s : Int × Int) h Kn => pZ b c d f i j g Q Kn1 s.1 s.2 h Kn) ((-1), 0) h) else (kA Tryz.prog aL bW (.slice c d f) h fun v h2 => ∃ a, v = .string a ∧ Q (.string a) h2)) else (kA Tryz.prog aL bW (.slice c d f) h fun v h3 => ∃ a, v = .string a ∧ Q (.string a) h3)
def wb (a : ByteArray) (Q : QT) (h : aB) : Prop :=
 alV h (.cells #[] gK) fun b h1 => aH (fun (s : (Option Addr) × Nat × Nat × Int × Int × Int) h Kn => qe a Q s.1 s.2.1 s.2.2.1 s.2.2.2.1 s.2.2.2.2.1 s.2.2.2.2.2 h Kn) (some b, 0, 0, 0, 0, 0) h1
set_option maxRecDepth 100000 in
theorem BK (i : _) {Q : QT} {h : aB} (hk : wb i Q h) : aD Tryz.prog qj #[.string i] h Q :=
 aS follows Tryz.func116 (Tryz.call116 _) rfl rfl [] [(10, fun e h => dS (e 0) fun i => dL (e 3) fun a b c => dI .i64 (e 4) fun d => dI .i64 (e 5) fun f => dI .i64 (e 6) fun g => aH (fun (s : (Option Addr) × Nat × Nat × Int × Int × Int) h Kn => qe i Q s.1 s.2.1 s.2.2.1 s.2.2.2.1 s.2.2.2.2.1 s.2.2.2.2.2 h Kn) (a, b, c, d, f, g) h)]
 trivial
 ⟨⟨by kernel_rfl, fun e h he hk => by
 have F := Ag.nil (e := e)
 have ⟨i, F, hk⟩ := eS F hk
 have ⟨a, b, c, F, hk⟩ := eL F hk
 have ⟨d, F, hk⟩ := eI F hk
 have ⟨f, F, hk⟩ := eI F hk
 have ⟨g, F, hk⟩ := eI F hk
 exact bT (s0 := (a, b, c, d, f, g)) follows (fun _ h => by cases h) he F (fun s => [(6, .int .i64 s.2.2.2.2.2), (5, .int .i64 s.2.2.2.2.1), (4, .int .i64 s.2.2.2.1), (3, .slice s.1 s.2.1 s.2.2.1)]) (by kernel_rfl) (F.take 4) hk (fun Kn1 e h => dL (e 3) fun a b c => dI .i64 (e 4) fun d => dI .i64 (e 5) fun f => dI .i64 (e 6) fun g => Kn1 (a, b, c, d, f, g) h) (fun Kn1 e h hk => by
  have F := Ag.nil (e := e)
  have ⟨a, b, c, F, hk⟩ := eL F hk
  have ⟨d, F, hk⟩ := eI F hk
  have ⟨f, F, hk⟩ := eI F hk
  have ⟨g, F, hk⟩ := eI F hk
  exact ⟨(a, b, c, d, f, g), F, hk⟩)
  (fun Kn1 => [(26, fun e h => dS (e 0) fun i => dL (e 3) fun a b c => dI .i64 (e 4) fun d => dI .i64 (e 5) fun f => dI .i64 (e 6) fun g => dI .i64 (e 7) fun j => qb i a b c d f g j Q Kn1 h)]) (fun Kn1 => [(18, fun e h => dS (e 0) fun i => dL (e 3) fun a b c => dI .i64 (e 4) fun d => dI .i64 (e 5) fun f => dI .i64 (e 6) fun g => dI .i64 (e 7) fun j => dI .i64 (e 8) fun k => aH (fun (s : Int × Int) h Kn => pZ i a b c d f g Q Kn1 s.1 s.2 h Kn) (j, k) h)])
  (fun Kn1 => ⟨fun e h _ hk => by
 have F := Ag.nil (e := e)
 have ⟨i, F, hk⟩ := eS F hk
 have ⟨a, b, c, F, hk⟩ := eL F hk
 have ⟨d, F, hk⟩ := eI F hk
 have ⟨f, F, hk⟩ := eI F hk
 have ⟨g, F, hk⟩ := eI F hk
 have ⟨j, F, hk⟩ := eI F hk
 exact fX F (by as_aux_lemma => kernel_rfl) hk, trivial⟩)
  (fun Kn1 => ⟨⟨by kernel_rfl, fun e h he hk => by
 have F := Ag.nil (e := e)
 have ⟨i, F, hk⟩ := eS F hk
 have ⟨a, b, c, F, hk⟩ := eL F hk
 have ⟨d, F, hk⟩ := eI F hk
 have ⟨f, F, hk⟩ := eI F hk
 have ⟨g, F, hk⟩ := eI F hk
 have ⟨j, F, hk⟩ := eI F hk
 have ⟨k, F, hk⟩ := eI F hk
 exact bT (s0 := (j, k)) follows (tP (by kernel_rfl)) he F (fun s => [(8, .int .i64 s.2), (7, .int .i64 s.1)]) (by kernel_rfl) (F.take 2) hk (fun Kn2 e h => dI .i64 (e 7) fun j => dI .i64 (e 8) fun k => Kn2 (j, k) h) (fun Kn2 e h hk => by
  have F := Ag.nil (e := e)
  have ⟨j, F, hk⟩ := eI F hk
  have ⟨k, F, hk⟩ := eI F hk
  exact ⟨(j, k), F, hk⟩)
  (fun Kn2 => []) (fun Kn2 => [])
  (fun Kn2 => trivial)
  (fun Kn2 => trivial) (fun e s h Kn2 => by as_aux_lemma => kernel_rfl)⟩, trivial⟩) (fun e s h Kn1 => by as_aux_lemma => kernel_rfl)⟩, trivial⟩ (by as_aux_lemma => kernel_rfl) hk
end Go.Proofs.YtjmfpeiidlpngaaGreatDoor
