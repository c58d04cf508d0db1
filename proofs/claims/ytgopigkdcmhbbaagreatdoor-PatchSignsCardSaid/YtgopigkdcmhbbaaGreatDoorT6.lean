/- A part of the proof of what the last text says: XcE, Ks1, Ks2, Ks3, Ks4, Ke1, Em0, Ke2, Ke3, Ke4, XcM, XcN, Kg1, Kg2, Kg3, Kg4, Kg5, Gw3, XcH, Gm3, Gw4, Gm4, Gm5, Gv1, Gv2, Gv3, Gk1. Conditions: those in each theorem. -/
import Derived.Test.YtgopigkdcmhbbaaGreatDoorT5
import Derived.Shelf.Strings.Builder1
import Derived.TacticsIn
import Derived.Lib.UnsafeStr
import Derived.Shelf.RegionOpenPlain
set_option autoImplicit true
set_option relaxedAutoImplicit true
set_option linter.unusedVariables false
set_option linter.unusedSimpArgs false
set_option maxRecDepth 100000
set_option maxHeartbeats 16000000
open List renaming getD_eq_getElem?_getD -> Na,getElem?_eq_getElem -> Nb,getD_cons_succ -> Nc,getD_cons_zero -> Nd,getElem?_map -> Nf,length_append -> Nj,length_cons -> Nk,length_nil -> Nl,getElem?_cons_zero -> Nm,mem_of_getElem? -> Nn,map_append -> No,append_assoc -> Np,mem_cons -> Nu,getElem?_eq_none -> Nv,length_take -> Nw,append_nil -> Ny,nil_append -> Nz,map_map -> N0,map_congr_left -> N1,not_mem_nil -> N2
open Option renaming getD_some -> Ng
open Int renaming cast_ofNat_Int -> Nh,toNat_natCast -> Ni
open Nat renaming le_trans -> Nq,le_refl -> Nr,lt_or_ge -> Nt,reduceSub -> qa,reduceAdd -> qb,reduceMul -> qc,reduceEqDiff -> qd,reduceLeDiff -> qe,reduceBEq -> qf
noncomputable section
namespace Go.Proofs.YtgopigkdcmhbbaaGreatDoor
open Go.Xs
open Go Go.Aw
def ZB:=yy Tryz.f15
def V15:=PLift.up (aI (aI (aI (@unf (ZB 20) (F [u,u,u,u,u,y 66,y 66,y 66,u,u,y 71,y 71,y 71,v,u]) rfl) (@unf (ZB 12) (X (R [u,u,u,z 31,z 31,u,u,z 35,z 35,u,u,z 39,z 39,z 39,u,u,z 44,z 44,z 44,z 44,u,u,z 50,z 50,z 50,u,u,z 55,z 55,z 55,z 55,z 55,u] (T (F [u]))) (ZB 20)) rfl)) (aI (@unf (ZB 10) (R [u,v,u] (ZB 12)) rfl) (@unf (ZB 8) (R [u,u,u,v,v,u,u,u] (ZB 10)) rfl))) (aI (aI (@unf (ZB 6) (R [u,u,u,v,v,u,u,u] (ZB 8)) rfl) (@unf (ZB 4) (R [u,u,u,v,v,u,u] (ZB 6)) rfl)) (aI (@unf (ZB 2) (R [u,u,v,u,u] (ZB 4)) rfl) (@unf (ZB 0) (R [u] (ZB 2)) rfl))))
theorem mO:type_of% V15.down:=V15.down
theorem AT:Bt 15 76 (ZB 0) [(.tmp 0)]:=bt Tryz.func15 rfl
def ln:=yy Tryz.f21
def V21:=PLift.up (aI (aI (@unf (ln 7) (T (F [v,u,u])) rfl) (@unf (ln 20) (F [u,v,u,u]) rfl)) (aI (@unf (ln 12) (X (R [u,u,u,u] (T (F [u,u]))) (ln 20)) rfl) (aI (@unf (ln 2) (X (R [u,v,u] (R [u,u] (ln 7))) (ln 12)) rfl) (@unf (ln 0) (R [u,u,u] (ln 2)) rfl))))
theorem Fh:type_of% V21.down:=V21.down
theorem MB:Bt 21 16 (ln 0) [(.tmp 2),(.tmp 3)]:=bt Tryz.func21 rfl
def Jl:=yy Tryz.f36
def x36_G0:XC:=(.block 1 (.regT [6] [([f 26 6 3 33],c (.load 23 (t 33)) 34,false)] [m 7 35,a (.indexAddr 22 (t 35) (i 0)) 36,l 3 36 37,m 7 38,a (.indexAddr 22 (t 38) (i 1)) 39,l 3 39 40,a (.build 64 #[(0,(t 37)),(1,(t 40))]) 41,a (.buildSlice 23 1 #[(0,(t 41))]) 42,b (.call ⟨(.builtin .append),#[t 34,t 42],#[23,23]⟩) 43,f 26 6 3 44] [w 23 44 43]))
def x36_s2:XC:=(.seq (.block 3 (.regT [6,4] [([f 26 6 4 74],c (.load 24 (t 74)) 75,false),([m 4 76],k1 76 76 122 77,false)] [a (.buildSlice 24 1 #[(0,(t 77))]) 78,b (.call ⟨(.builtin .append),#[t 75,t 78],#[24,24]⟩) 79,f 26 6 4 80] [w 24 80 79])) (Jl 31))
def x36_L3:XC:=(.seq (.seq (Jl 24) (C 71 .skip (.exit 2))) x36_s2)
def x36_s12:XC:=(.seq (Jl 16) (.seq (R [A 0 11] (.block 2 (.loop x36_L3))) (Jl 32)))
def x36_s13:XC:=(.seq (Jl 14) x36_s12)
def x36_s14:XC:=(.seq (.seq (.gh (.reg [m 4 29,a (k 73 #[t 29,(i (-1)),i 2] #[122,3,3]) 30,a (k 74 #[t 30,i 2] #[22,3]) 31])) (.block 0 (.rgf (t 31) 32 7 x36_G0))) x36_s13)
def x36_s15:XC:=(.seq (.regT [] [([m 5 19,a (.indexAddr 22 (t 19) (i 0)) 20,l 3 20 21,m 5 22,a (.indexAddr 22 (t 22) (i 1)) 23,l 3 23 24,m 5 25,a (.indexAddr 22 (t 25) (i 2)) 26,l 3 26 27],b (.build 26 #[(0,(t 21)),(1,(t 24)),(2,(t 27))]) 28,false),([],a (.alloc 26) 6,false)] [] [w 26 6 28]) x36_s14)
def x36_s16:XC:=(R [m 4 17,b (k 73 #[t 17,i 3,i 1] #[122,3,3]) 18,n 18 5] x36_s15)
def x36_s17:XC:=(.seq (Jl 3) x36_s16)
def ZD:XC:=(R [a (.alloc 26) 2,A 0 3] x36_s17)
def V36r:=PLift.up (aI (aI (@unf (Jl 24) (r [u,u,u,u,y 61,y 61,u,u,y 65,y 65,y 65,y 65,y 65,u]) rfl) (@unf (Jl 16) (r [u,u,u,u]) rfl)) (aI (@unf (Jl 14) (r [u,u,u,u,u,u,v,v,v,u,u,u]) rfl) (@unf (Jl 3) (r [u,u,v,u]) rfl)))
theorem vK:type_of% V36r.down:=V36r.down
def V36:=PLift.up (aI (aI (aI (aI (@unf _ _ x36_G0.eq_1) (@unf (Jl 31) (r [u,v,u]) rfl)) (aI (@unf _ _ x36_s2.eq_1) (@unf _ _ x36_L3.eq_1))) (aI (aI (@unf (Jl 41) (T (F [v,u,u])) rfl) (@unf (Jl 51) (T (F [v,u,u])) rfl)) (aI (@unf (Jl 56) (F [v,u,u]) rfl) (aI (@unf (Jl 48) (X (R [u,u,u,z 108,z 108,z 108,z 108,u] (Jl 51)) (Jl 56)) rfl) (@unf (Jl 46) (R [u,u,u,v,v,u,u] (Jl 48)) rfl))))) (aI (aI (aI (@unf (Jl 38) (X (R [u,u,u,u] (Jl 41)) (Jl 46)) rfl) (@unf (Jl 34) (R [u,u,u,u] (R [v,u,u] (Jl 38))) rfl)) (aI (@unf (Jl 32) (R [u,u,u,u,u,u,v,v,v,u,u,u] (Jl 34)) rfl) (@unf _ _ x36_s12.eq_1))) (aI (aI (@unf _ _ x36_s13.eq_1) (@unf _ _ x36_s14.eq_1)) (aI (@unf _ _ x36_s15.eq_1) (aI (@unf _ _ x36_s16.eq_1) (@unf _ _ x36_s17.eq_1))))))
theorem VX:type_of% V36.down:=V36.down
theorem b36:Bt 36 116 ZD [(.cell 2 26),(.tmp 3)]:=bt Tryz.func36 rfl
def U5:=yy Tryz.f14
def V14:=PLift.up (aI (aI (aI (@unf (U5 30) (r [u,v,u]) rfl) (@unf (U5 21) (X (O (X (G [u,u,u,u,u,u,u,u,u,u,u]) (T (F [u])))) (U5 30)) rfl)) (aI (@unf (U5 15) (X (R [u,u,u,u,u] I) (U5 21)) rfl) (@unf (U5 51) (r [u,v,u]) rfl))) (aI (aI (@unf (U5 42) (X (O (X (G [u,u,u,u,u,u,u,u,u,u,u,u]) (T (F [u])))) (U5 51)) rfl) (@unf (U5 36) (X (R [u,u,u,u,u] I) (U5 42)) rfl)) (aI (@unf (U5 31) (X (R [u] (U (U5 36))) (F [u])) rfl) (aI (@unf (U5 2) (X (R [u,u,u,u,u,u,z 12,z 12,z 12,z 12,z 12,u,u,z 19,z 19,z 19,z 19,z 19,u,u,z 26,z 26,z 26,z 26,z 26,u,u,z 33,z 33,z 33,z 33,z 33,z 33,z 33,u,u,z 42,z 42,z 42,z 42,z 42,z 42,z 42,u] (T (F [u]))) (X (R [u] (U (U5 15))) (U5 31))) rfl) (@unf (U5 0) (R [u,u,u] (U5 2)) rfl)))))
theorem pG:type_of% V14.down:=V14.down
theorem cn:Bt 14 88 (U5 0) [(.tmp 4)]:=bt Tryz.func14 rfl
def dr:=yy Tryz.f38
def V38:=PLift.up (aI (aI (@unf (dr 30) (r [u,v,u]) rfl) (aI (@unf (dr 21) (X (O (X (G [u,u,u,u,u,u,u,u,u]) (T (F [u])))) (dr 30)) rfl) (@unf (dr 15) (X (R [u,u,u,u] I) (dr 21)) rfl))) (aI (@unf (dr 10) (X (R [u] (U (dr 15))) (F [u])) rfl) (aI (@unf (dr 2) (X (R [u,u,u,u,u] (T (F [u]))) (dr 10)) rfl) (@unf (dr 0) (R [u] (dr 2)) rfl))))
theorem te:type_of% V38.down:=V38.down
theorem b38:Bt 38 26 (dr 0) [(.tmp 4)]:=bt Tryz.func38 rfl
def dx:=yy Tryz.f10
def V10:=PLift.up (aI (aI (@unf (dx 5) (T (F [v,u,u])) rfl) (aI (@unf (dx 15) (T (F [v,v,u,u])) rfl) (@unf (dx 20) (F [u,u,u,v,u,u]) rfl))) (aI (@unf (dx 10) (R [u,u,u,u,u,u,v,v,u,u,u] (X (R [u,u] (dx 15)) (dx 20))) rfl) (aI (@unf (dx 2) (X (R [u,u,u] (dx 5)) (dx 10)) rfl) (@unf (dx 0) (R [u,u,u] (dx 2)) rfl))))
theorem nf:type_of% V10.down:=V10.down
theorem zV:Bt 10 26 (dx 0) [(.cell 2 35),(.tmp 3)]:=bt Tryz.func10 rfl
def dg:=yy Tryz.f37
def V37:=PLift.up (aI (aI (@unf (dg 22) (r [x,u,u,u,u,u,u,u,v,u]) rfl) (aI (@unf (dg 19) (R [u,u,u] (T (dg 22))) rfl) (@unf (dg 15) (X (O (R [v,u,v,u,u,u] (dg 19))) (r [u,u])) rfl))) (aI (@unf (dg 9) (R [u] (X I (dg 15))) rfl) (aI (@unf (dg 4) (X (R [u,u,u,u] (U (dg 9))) (F [v,u])) rfl) (@unf (dg 0) (R [u,u] (R [u] (dg 4))) rfl))))
theorem DF:type_of% V37.down:=V37.down
theorem b37:Bt 37 28 (dg 0) [(.tmp 2)]:=bt Tryz.func37 rfl
def ll:=yy Tryz.f73
def x73_c1:XC:=(R [m 1 45,a (.call ⟨(.builtin .max),#[t 45,i 0],#[3,3]⟩) 46,b (.makeSlice 22 (t 46) (t 46)) 47,n 47 6] .ret)
def x73_s2:XC:=(.seq (.seq (ll 14) (C 44 x73_c1 .skip)) (R [M 7 48,n 48 6] .ret))
def x73_s3:XC:=(.seq (.seq (ll 8) (ll 9)) x73_s2)
def x73_s4:XC:=(.seq (ll 5) x73_s3)
def x73_s5:XC:=(.seq (ll 3) x73_s4)
def x73:XC:=(R [Z 6] x73_s5)
def V73r:=PLift.up (aI (aI (@unf (ll 14) (r [u,u,u,u]) rfl) (@unf (ll 8) (r [u,u,u,y 25,y 25,y 25,y 25,u,u,z 31,z 31,z 31,z 31,z 31,u]) rfl)) (aI (@unf (ll 5) (r [u,u,u,u]) rfl) (@unf (ll 3) (r [u,u,u,u,u,u,v,v,v,u,u,u]) rfl)))
theorem tz:type_of% V73r.down:=V73r.down
def V73:=PLift.up (aI (aI (@unf (ll 9) (T (r [u,u,u,u])) rfl) (aI (@unf _ _ x73_c1.eq_1) (@unf _ _ x73_s2.eq_1))) (aI (@unf _ _ x73_s3.eq_1) (aI (@unf _ _ x73_s4.eq_1) (@unf _ _ x73_s5.eq_1))))
theorem FM:type_of% V73.down:=V73.down
theorem b73:Bt 73 49 x73 [(.tmp 6)]:=bt Tryz.func73 rfl
def B6:=yy Tryz.f74
def V74:=PLift.up (aI (@unf (B6 5) (T (r [u,u])) rfl) (aI (@unf (B6 2) (X (R [u,u] (B6 5)) (F [v,u])) rfl) (@unf (B6 0) (R [u,u,u] (B6 2)) rfl)))
theorem U74:type_of% V74.down:=V74.down
def ut:=yy Tryz.f49
def V49:=PLift.up (aI (aI (aI (aI (@unf (ut 5) (T (F [u,u,u])) rfl) (@unf (ut 36) (T (F [u,u,u])) rfl)) (aI (@unf (ut 34) (R [u,u,u,y 35,y 35,y 35,y 35,y 35,y 35,v,u] (ut 36)) rfl) (@unf (ut 30) (V (F [u,u,u]) (ut 34)) rfl))) (aI (aI (@unf (ut 28) (R [u,u,u,v,u] (ut 30)) rfl) (@unf (ut 24) (V (F [u,u,u]) (ut 28)) rfl)) (aI (@unf (ut 58) (r [u,u,u,u,u,u,v,u]) rfl) (aI (@unf (ut 54) (X (O (R [u,v,u] (ut 58))) (r [u,u])) rfl) (@unf (ut 48) (R [u] (X I (ut 54))) rfl))))) (aI (aI (aI (@unf (ut 63) (T (F [u,u,u])) rfl) (@unf (ut 71) (T (r [u,v,u])) rfl)) (aI (@unf (ut 74) (F [u,v,u,v,u,u,u]) rfl) (aI (@unf (ut 60) (X (R [u,u,u] (ut 63)) (X (R [u,u] (ut 71)) (ut 74))) rfl) (@unf (ut 43) (X (R [u,u,u,u,u,u] (U (ut 48))) (ut 60)) rfl)))) (aI (aI (@unf (ut 20) (X (O (R [u,v,u] (ut 24))) (R [u] (ut 43))) rfl) (@unf (ut 18) (R [u,u,u,u,u,u,v,u] (ut 20)) rfl)) (aI (@unf (ut 12) (X (R [u,u,u,u] (T (r [u]))) (ut 18)) rfl) (aI (@unf (ut 2) (X (R [u,u,u] (ut 5)) (R [u] (ut 12))) rfl) (@unf (ut 0) (R [u,u,u] (ut 2)) rfl))))))
theorem U49:type_of% V49.down:=V49.down
theorem b49:Bt 49 71 (ut 0) [(.tmp 2),(.tmp 3),(.tmp 4)]:=bt Tryz.func49 rfl
def EQ:=yy Tryz.f75
def V75:=PLift.up (aI (@unf (EQ 2) (r [u,u,u,u,u,u,z 20,z 20,v,u,u,u]) rfl) (@unf (EQ 0) (R [u,u,u,u,u,u,v,u,u,u] (EQ 2)) rfl))
theorem U75:type_of% V75.down:=V75.down
theorem b75:Bt 75 26 (EQ 0) []:=bt Tryz.func75 rfl
def B5:=yy Tryz.f76
def x76_G0:XC:=(.block 1 (.regT [4] [([f 71 4 3 49],c (.load 67 (t 49)) 50,false)] [m 5 51,a (.indexAddr 22 (t 51) (i 0)) 52,l 3 52 53,m 5 54,a (.indexAddr 22 (t 54) (i 1)) 55,l 3 55 56,m 5 57,a (.indexAddr 22 (t 57) (i 2)) 58,l 3 58 59,a (.build 66 #[(0,(t 53)),(1,(t 56)),(2,(t 59))]) 60,a (.buildSlice 67 1 #[(0,(t 60))]) 61,b (.call ⟨(.builtin .append),#[t 50,t 61],#[67,67]⟩) 62,f 71 4 3 63] [w 67 63 62]))
def x76_s2:XC:=(.seq (.regT [4] [([m 6 84,a (.indexAddr 31 (t 84) (i 0)) 85,L 9 85 86,m 6 87,a (.indexAddr 31 (t 87) (i 1)) 88,L 9 88 89,f 71 4 5 90],w 9 90 86,false)] [] [f 71 4 6 91,w 9 91 89]) (R [L 71 4 92,w 71 2 92] .ret))
def x76_s3:XC:=(.seq (R [m 6 77,e 31 77 78,q .neq 3 78 2 79] (C 79 (B5 19) .skip)) x76_s2)
def x76_s4:XC:=(.seq (B5 14) x76_s3)
def x76_s5:XC:=(.seq (B5 12) x76_s4)
def x76_s6:XC:=(.seq (.seq (.gh (.reg [m 0 45,a (k 73 #[t 45,(i (-1)),i 3] #[122,3,3]) 46,a (k 74 #[t 46,i 3] #[22,3]) 47])) (.block 0 (.rgf (t 47) 48 5 x76_G0))) x76_s5)
def x76_s7:XC:=(.seq (.regT [] [([m 3 11,a (.indexAddr 22 (t 11) (i 0)) 12,l 3 12 13,m 3 14,a (.indexAddr 22 (t 14) (i 1)) 15,l 3 15 16,m 3 17,a (.indexAddr 22 (t 17) (i 2)) 18,l 3 18 19,m 3 20,a (.indexAddr 22 (t 20) (i 3)) 21,l 3 21 22,a (.build 66 #[(0,(t 16)),(1,(t 19)),(2,(t 22))]) 23,m 3 24,a (.indexAddr 22 (t 24) (i 4)) 25,l 3 25 26,m 3 27,a (.indexAddr 22 (t 27) (i 5)) 28,l 3 28 29,m 3 30,a (.indexAddr 22 (t 30) (i 6)) 31,l 3 31 32,a (.build 66 #[(0,(t 26)),(1,(t 29)),(2,(t 32))]) 33,m 3 34,a (.indexAddr 22 (t 34) (i 7)) 35,l 3 35 36,m 3 37,a (.indexAddr 22 (t 37) (i 8)) 38,l 3 38 39,m 3 40,a (.indexAddr 22 (t 40) (i 9)) 41,l 3 41 42,a (.build 69 #[(0,(t 39)),(1,(t 42))]) 43],b (.build 71 #[(0,(t 13)),(1,(t 23)),(2,(t 33)),(4,(t 36)),(7,(t 43))]) 44,false),([],a (.alloc 71) 4,false)] [] [w 71 4 44]) x76_s6)
def x76_s8:XC:=(R [m 0 9,b (k 73 #[t 9,i 10,i 1] #[122,3,3]) 10,n 10 3] x76_s7)
def x76:XC:=(R [a (.alloc 71) 2] x76_s8)
def V76r:=PLift.up (aI (@unf (B5 14) (r [u,u,u,u]) rfl) (@unf (B5 12) (r [u,u,u,u,u,u,v,v,v,u,u,u]) rfl))
theorem YU:type_of% V76r.down:=V76r.down
def V76:=PLift.up (aI (aI (aI (@unf _ _ x76_G0.eq_1) (@unf (B5 19) (R [u,u,u,u] (F [v,u])) rfl)) (aI (@unf _ _ x76_s2.eq_1) (@unf _ _ x76_s3.eq_1))) (aI (aI (@unf _ _ x76_s4.eq_1) (@unf _ _ x76_s5.eq_1)) (aI (@unf _ _ x76_s6.eq_1) (aI (@unf _ _ x76_s7.eq_1) (@unf _ _ x76_s8.eq_1)))))
theorem xf:type_of% V76.down:=V76.down
theorem b76:Bt 76 93 x76 [(.cell 2 71)]:=bt Tryz.func76 rfl
def r7:=yy Tryz.f77
def V77:=PLift.up (aI (aI (@unf (r7 7) (T (F [v,u,u,u])) rfl) (@unf (r7 12) (F [u,u,u,u,u,u,v,u,u,v,u,u,u]) rfl)) (aI (@unf (r7 2) (R [u,u,u,v,v,v,u,u,u] (X (R [u,u] (r7 7)) (r7 12))) rfl) (@unf (r7 0) (R [u,u,u] (r7 2)) rfl)))
theorem ET:type_of% V77.down:=V77.down
theorem b77:Bt 77 27 (r7 0) [(.tmp 2),(.tmp 3),(.tmp 4)]:=bt Tryz.func77 rfl
def EG:=yy Tryz.f35
def V35:=PLift.up (aI (@unf (EG 2) (F [u,u,u,u,u,u,y 10,y 10,y 10,y 10,y 10,u,u,y 17,y 17,y 17,y 17,y 17,u,u,y 24,y 24,y 24,y 24,y 24,u,u,y 31,y 31,y 31,y 31,y 31,u,u,y 38,y 38,y 38,y 38,y 38,u,u,y 45,y 45,y 45,y 45,y 45,u,u,y 52,y 52,y 52,y 52,y 52,v,u]) rfl) (@unf (EG 0) (R [u,u,u] (EG 2)) rfl))
theorem U35:type_of% V35.down:=V35.down
theorem b35:Bt 35 59 (EG 0) [(.tmp 4)]:=bt Tryz.func35 rfl
def uO:=yy Tryz.f116
def V116:=PLift.up (aI (aI (aI (@unf (uO 7) (T (F [v,u,u,u])) rfl) (@unf (uO 34) (T (F [v,u,u,u])) rfl)) (aI (@unf (uO 39) (r [x,u,u,v,v,u,u]) rfl) (aI (@unf (uO 27) (X (O (R [u,u,u,v,v,v,u,u,u] (X (R [u,u] (uO 34)) (uO 39)))) (r [u,u])) rfl) (@unf (uO 21) (R [u] (X I (uO 27))) rfl)))) (aI (aI (@unf (uO 41) (F [v,v,u,u,u]) rfl) (@unf (uO 14) (R [u] (X (R [u,u] (U (uO 21))) (uO 41))) rfl)) (aI (@unf (uO 12) (R [u,u,v,u] (uO 14)) rfl) (aI (@unf (uO 2) (R [u,u,u,v,v,v,u,u,u] (X (R [u,u] (uO 7)) (uO 12))) rfl) (@unf (uO 0) (R [u,u,u] (uO 2)) rfl)))))
theorem YN:type_of% V116.down:=V116.down
theorem IN:Bt 116 45 (uO 0) [(.tmp 2),(.tmp 3),(.tmp 4)]:=bt Tryz.func116 rfl
def oJ:=yy Tryz.f118
def V118:=PLift.up (aI (aI (aI (@unf (oJ 7) (T (F [v,u,u,u])) rfl) (@unf (oJ 32) (T (F [v,u,u,u])) rfl)) (aI (@unf (oJ 37) (r [x,u,u,v,u,u,v,u,u]) rfl) (@unf (oJ 25) (X (O (R [u,u,u,u,u,v,v,v,u,u,u] (X (R [u,u] (oJ 32)) (oJ 37)))) (r [u,u])) rfl))) (aI (aI (@unf (oJ 19) (R [u] (X I (oJ 25))) rfl) (@unf (oJ 39) (F [v,v,u,u,u]) rfl)) (aI (@unf (oJ 12) (R [u] (X (R [u,u] (U (oJ 19))) (oJ 39))) rfl) (aI (@unf (oJ 2) (R [u,u,u,v,v,v,u,u,u] (X (R [u,u] (oJ 7)) (oJ 12))) rfl) (@unf (oJ 0) (R [u,u,u] (oJ 2)) rfl)))))
theorem VQ:type_of% V118.down:=V118.down
theorem LH:Bt 118 45 (oJ 0) [(.tmp 2),(.tmp 3),(.tmp 4)]:=bt Tryz.func118 rfl
def JC:=yy Tryz.f119
def V119:=PLift.up (aI (aI (@unf (JC 14) (R [u,u,u,u,u,u,u,v,u] (T (r [u]))) rfl) (aI (@unf (JC 10) (R [u,v,u] (V (r [u]) (JC 14))) rfl) (@unf (JC 19) (F [v,v,v,u,u,u]) rfl))) (aI (@unf (JC 4) (X (O (R [u,v,u] (V .skip (JC 10)))) (JC 19)) rfl) (aI (@unf (JC 2) (R [u,u,u,v,v,v,u,u,u] (JC 4)) rfl) (@unf (JC 0) (R [u,u,u] (JC 2)) rfl))))
theorem dZ:type_of% V119.down:=V119.down
theorem FJ:Bt 119 31 (JC 0) [(.tmp 4),(.tmp 5),(.tmp 6)]:=bt Tryz.func119 rfl
def dj:=yy Tryz.f72
def V72:=PLift.up (aI (aI (@unf (dj 30) (r [u,v,u]) rfl) (aI (@unf (dj 21) (X (O (X (G [u,u,u,u,u,u,u,u,u]) (T (F [u])))) (dj 30)) rfl) (@unf (dj 15) (X (R [u,u,u,u] I) (dj 21)) rfl))) (aI (@unf (dj 10) (X (R [u] (U (dj 15))) (F [u])) rfl) (aI (@unf (dj 2) (X (R [u,u,u,u,u] (T (F [u]))) (dj 10)) rfl) (@unf (dj 0) (R [u] (dj 2)) rfl))))
theorem EA:type_of% V72.down:=V72.down
theorem b72:Bt 72 26 (dj 0) [(.tmp 4)]:=bt Tryz.func72 rfl
def D0:=yy Tryz.f138
def V138:=PLift.up (aI (@unf (D0 0) (R [u,u,u] (F [v,u])) rfl) trivial)
theorem LN:type_of% V138.down:=V138.down
def Zo:=yy Tryz.f144
def V144:=PLift.up (aI (aI (@unf (Zo 6) (X (G [v,v,v,u,u,u]) .ret) rfl) (@unf (Zo 4) (R [u,u,v,u] (Zo 6)) rfl)) (aI (@unf (Zo 2) (R [u,u,u,u,u,v,v,v,u,u,u] (Zo 4)) rfl) (@unf (Zo 0) (R [u,u,u] (Zo 2)) rfl)))
theorem td:type_of% V144.down:=V144.down
theorem IA:Bt 144 22 (Zo 0) [(.tmp 2),(.tmp 3),(.tmp 4)]:=bt Tryz.func144 rfl
def pA:=yy Tryz.f20
def V20:=PLift.up (aI (aI (@unf (pA 5) (T (F [v,u,u])) rfl) (@unf (pA 10) (F [u,u,u,v,u,u]) rfl)) (aI (@unf (pA 2) (X (R [u,u,u,u,z 9,z 9,z 9,u] (pA 5)) (pA 10)) rfl) (@unf (pA 0) (R [u,u] (pA 2)) rfl)))
theorem pP:type_of% V20.down:=V20.down
theorem b20:Bt 20 19 (pA 0) [(.cell 4 33),(.tmp 5)]:=bt Tryz.func20 rfl
def FB:=yy Tryz.f78
def V78:=PLift.up (aI (@unf (FB 2) (F [u,u,u,u,v,u]) rfl) (@unf (FB 0) (R [u] (FB 2)) rfl))
theorem U78:type_of% V78.down:=V78.down
theorem b78:Bt 78 10 (FB 0) [(.tmp 4)]:=bt Tryz.func78 rfl
def y9:=yy Tryz.f9
theorem b9:Bt 9 13 (y9 0) [(.tmp 4)]:=bt Tryz.func9 rfl
end Go.Proofs.YtgopigkdcmhbbaaGreatDoor
end
section
namespace Go.Proofs.YtgopigkdcmhbbaaGreatDoor
open Go Go.Aw Go.Shelf Go.RowKit Go.Proofs
def bren:Ren:=⟨fun|240=>102|276=>133|169=>66|n=>n,fun|20=>20|37=>55|70=>112|72=>114|127=>165|164=>195|n=>n,fun|n=>n⟩
theorem pW:Lays.n240 Tryz.prog bren:={
 mixed:=by kernel_rfl
 f240:=Tryz.func102.trans (congrArg some (by kernel_rfl))
 f276:=Tryz.func133.trans (congrArg some (by kernel_rfl))
 t0:=Tryz.underlying0
 a0:=Tryz.isAgg0
 z0:=Tryz.sizeOf0
 v0:=Tryz.zeroValue0
 t4:=Tryz.underlying4
 a4:=Tryz.isAgg4
 z4:=Tryz.sizeOf4
 v4:=Tryz.zeroValue4
 t9:=Tryz.underlying9
 a9:=Tryz.isAgg9
 z9:=Tryz.sizeOf9
 v9:=Tryz.zeroValue9
 t20:=Tryz.underlying20
 a20:=Tryz.isAgg20
 z20:=Tryz.sizeOf20
 v20:=Tryz.zeroValue20
 t70:=Tryz.underlying112
 a70:=Tryz.isAgg112
 z70:=Tryz.sizeOf112
 v70:=Tryz.zeroValue112
 t72:=Tryz.underlying114
 a72:=Tryz.isAgg114
 z72:=Tryz.sizeOf114
 v72:=Tryz.zeroValue114
 t164:=Tryz.underlying195
 a164:=Tryz.isAgg195
 z164:=Tryz.sizeOf195
 v164:=Tryz.zeroValue195}
theorem blX:Builder.X72 Tryz.prog bren:=⟨by kernel_rfl,by kernel_rfl⟩
theorem Jc {T:TypeId} (J:Nat->List D->(Nat->BK)->World->Prop) (hJ:∀b K w,K b= .tok 0 (.cell b 0)->w.heap[b]?=some (.cells #[.pointer none,.slice none 0 0] T (0,0))->J b [] K w) (hok:∀b,mR b (J b)) (hz:∀w,(zeroValue T).run P w= .ok (.agg #[.pointer none,.slice none 0 0]) w)
  (h:∀b,qH H b->k (F.set d (.ptr b 0)) ((b,.lp (J b) [])::H)):VZ P (.alloc T) (some d) F H k:=by
 intro o K w a Q ho hd hs
 obtain ⟨hp,hk'⟩:=yT (K:=K) (w:=w) hs.krel (.cells #[.pointer none,.slice none 0 0] T) (x:= .tok 0 (.cell w.heap.size 0)) (by simp)
 have hold:=hs.hrel.pres hs.krel hp
 refine qP (v:= .pointer (some ⟨w.heap.size,0,none⟩)) (w':=w.alloc (.cells #[.pointer none,.slice none 0 0] T)) ?_ ⟨_,_,_,h _ (hs.hrel.fresh hs.krel),hp.fk hs.krel,?_,qx _ _⟩
 ·simp [execOp,ho,Instr.alloc,hz,newVar,newRow,Value.cells]
 ·rw [hd]
  refine hs.put (hp.keep hs.krel) (fun _ _ h=>h) hk' ⟨?_,fun b o hm=>?_⟩ (some d) (fun i _=>RepV.viewO (.ptr _ _))
  ·simp only [List.map_cons,List.nodup_cons]
   refine ⟨fun hm=>?_,hold.nd⟩
   rw [List.mem_map] at hm
   obtain ⟨⟨b,o⟩,h1,h2⟩:=hm
   have:=hs.hrel.lt hs.krel h1
   simp only [] at h2
   omega
  ·rcases List.mem_cons.1 hm with h|h
   ·injection h with h1 h2
    subst h1 h2
    exact ⟨⟨0,0,jx _ _ _⟩,hJ _ _ _ (jx _ _ _) (heap_alloc_new w _),hok _⟩
   ·exact hold.ok b o h
structure One (b:Nat) (w w':World):Prop where
 os:w'.os=w.os
 tape:w'.tape=w.tape
 output:w'.output=w.output∧w.drawn<=w'.drawn
 size:w'.heap.size=w.heap.size
 other:∀c,c≠b->w'.heap[c]?=w.heap[c]?
theorem One.set (b i:Nat) (w:World) (v:Value):One b w (w.setCell ⟨b,i,none⟩ v):=⟨rfl,rfl,⟨rfl,Nr _⟩,by simp,fun c hc=>Below.heap_setCell _ _ _ _ hc⟩
theorem sx (hw:w.heap[b]?=some (.cells #[p,v] 114 (0,0))) (hp:p= .pointer none∨p= .pointer (some ⟨b,0,none⟩)):
  Calls Tryz.prog 102 #[.pointer (some ⟨b,0,none⟩)] w fun e w'=>e= .returned (.tuple #[])∧w'.heap[b]?=some (.cells #[.pointer (some ⟨b,0,none⟩),v] 114 (0,0))∧One b w w':=by
 rcases hp with rfl|rfl
 ·have c0:w.cell? ⟨b,0,none⟩=some (.pointer none):=by rw [Lib.cell_of_heap hw];rfl
  have c1:w.shape? b=some (bren.t 72,2):=by simp [World.shape?,hw];rfl
  refine (Any.Builder_copyCheck_fresh pW blX b w c0 c1 (Lib.frozen_of_heap hw 0)).mono ?_
  rintro e w' ⟨rfl,rfl⟩
  exact ⟨rfl,heap_setCell_same w b 0 _ _ _ hw,One.set b 0 w _⟩
 ·have c0:w.cell? ⟨b,0,none⟩=some (.pointer (some ⟨b,0,none⟩)):=by rw [Lib.cell_of_heap hw];rfl
  refine (Any.Builder_copyCheck_used pW blX b w c0).mono ?_
  rintro e w' ⟨rfl,rfl⟩
  exact ⟨rfl,hw,rfl,rfl,⟨rfl,Nr _⟩,rfl,fun _ _=>rfl⟩
end Go.Proofs.YtgopigkdcmhbbaaGreatDoor
end
section
namespace Go.Proofs.YtgopigkdcmhbbaaGreatDoor
open Go Go.Aw Go.Shelf Go.RowKit Go.Proofs
def BldJ (b:Nat) (l:List UInt8):List D->(Nat->BK)->World->Prop:=fun _ K w=>K b= .tok 0 (.cell b 0)∧∃p v,w.heap[b]?=some (.cells #[p,v] 114 (0,0))∧(p= .pointer none∨p= .pointer (some ⟨b,0,none⟩))∧OwnAt K w (.cell b 1) (l.map ql) v∧
 ((l= []∧v= .slice none 0 0)∨∃g cap c,l≠ []∧v= .slice (some ⟨g,0,none⟩) l.length cap∧w.heap[g]?=some (.cells c 5 (0,0)))
theorem Kw {K K':Nat->BK} {w w':World} {o:Who} {l:List UInt8} {v:Value} (h:OwnAt K w o (l.map ql) v) (hk:∀c n,K c= .tok n o->K' c= .tok n o∧w'.heap[c]?=w.heap[c]?):OwnAt K' w' o (l.map ql) v:=by
 rcases h with h|⟨b,cap,sz,c,T,hv,h1,h2,h3,h4,h5,h6,h7,h8,h9⟩
 ·exact .inl h
 ·obtain ⟨g1,g2⟩:=hk b _ h1
  refine .inr ⟨b,cap,sz,c,T,hv,g1,g2.trans h2,h3,h4,h5,h6,h7,h8,fun i x hi j d hj=>?_⟩
  obtain ⟨u,e1,e2,e3⟩:=h9 i x hi j d hj
  refine ⟨u,e1,e2,?_⟩
  have hx:=Nn hi
  obtain ⟨y,_,rfl⟩:=List.mem_map.1 hx
  match j,hj with
  | 0,hj=>
   simp only [ql,Nm,Option.some.injEq] at hj
   subst hj
   obtain ⟨rfl,hin⟩:=e3.int_inv
   exact .int _ _ hin
  |j+1,hj=>simp [ql] at hj
theorem BldJ.ok:mR b (BldJ b l):=by
 intro pre K w K' w' h hk
 obtain ⟨h1,p,v,h2,h3,h4,h5⟩:=h
 have g:=hk b 0 0 h1
 refine ⟨g.1,p,v,g.2.trans h2,h3,Kw h4 fun c n hc=>hk c n 1 hc,?_⟩
 rcases h5 with h5|⟨g,cap,c,hl,rfl,hg⟩
 ·exact .inl h5
 ·rcases h4 with ⟨h4,a,e⟩|⟨b',cap',sz,c',T,hv,q1,q2,_⟩
  ·injection e with e1 e2 e3
   have:l= []:=by simpa using h4
   exact (hl this).elim
  ·injection hv with e1 _ _
   injection e1 with e1
   injection e1 with e1
   subst e1
   exact .inr ⟨_,cap,c,hl,rfl,(hk g _ 1 q1).2.trans hg⟩
theorem ZI {Q:Exit->Act->World->Prop} (hgd:o.guard=none) (s x:Operand) (t u:TypeId)
  (ho:o.op= .call {callee:= .builtin .append,args:=#[s,x],argTypes:=#[t,u]}) (hs:a.eval s=v) (hx:a.eval x=y)
  (hr:(Builtin.append_ #[t,u] o.type #[v,y]).run P w= .ok r w') (h:wpList P ops Q rest (a.put o.dst r) w'):wpList P ops Q (o::rest) a w:=
 wpList_plain hgd fun K hK=>by
  unfold Oper.wp execOp
  simp only [ho,resolve,invoke,builtin,Sem.run_bind,Sem.run_pure,Result.andThen_ok,List.map_toArray,List.map_cons,List.map_nil,hs,hx,hr]
  exact hK _ _ h
theorem cS (hw:w.heap[b]?=some (.cells #[p,v] 114 (0,0))) (hp:p= .pointer none∨p= .pointer (some ⟨b,0,none⟩))
  {Good:World->Value->World->Prop} (happ:∀w1:World,w1.heap[b]?=some (.cells #[.pointer (some ⟨b,0,none⟩),v] 114 (0,0))->One b w w1->
   ∃r w2,(Builtin.append_ #[55,55] 55 #[v,.slice (some ad) m cx]).run Tryz.prog w1= .ok r w2∧(∃a n c,r= .slice a n c)∧w2.heap[b]?=w1.heap[b]?∧Good w1 r w2):
  Calls Tryz.prog 63 #[.pointer (some ⟨b,0,none⟩),.slice (some ad) m cx] w fun e w3=>e= .returned (.tuple #[.int .i64 m,.nilIface])∧
   ∃w1 r w2,w1.heap[b]?=some (.cells #[.pointer (some ⟨b,0,none⟩),v] 114 (0,0))∧One b w w1∧w2.heap[b]?=w1.heap[b]?∧Good w1 r w2∧w3=w2.setCell ⟨b,1,none⟩ r:=by
 go_enter Tryz.func63,Tryz.ntmps63
 go_wp2_with (go_at_call 102;refine (sx hw hp).mono ?_)
 rintro e w1 ⟨rfl,hb1,ho1⟩
 obtain ⟨r,w2,hr,⟨ar,nr,cr,rfl⟩,hb2,hG⟩:=happ w1 hb1 ho1
 have c0:w1.cell? ⟨b,0,none⟩=some (.pointer (some ⟨b,0,none⟩)):=by rw [Lib.cell_of_heap hb1];rfl
 have c1:w1.cell? ⟨b,1,none⟩=some v:=by rw [Lib.cell_of_heap hb1];rfl
 have hb2':=hb2.trans hb1
 have d1:w2.cell? ⟨b,1,none⟩=some v:=by rw [Lib.cell_of_heap hb2'];rfl
 have f1:w2.frozen? ⟨b,1,none⟩=false:=Lib.frozen_of_heap hb2' 1
 go_wp2_with (at_builtin;refine ZI rfl _ _ _ _ rfl rfl rfl hr ?_)
 go_ret2
 exact ⟨rfl,w1,_,w2,hb1,ho1,hb2,hG,rfl⟩
end Go.Proofs.YtgopigkdcmhbbaaGreatDoor
end
section
namespace Go.Proofs.YtgopigkdcmhbbaaGreatDoor
open Go Go.Aw Go.Shelf Go.RowKit Go.Proofs
theorem UB:∀{H:AH} {c:Nat} {o:AO},(c,o)∈H->c≠b->(c,o)∈qT H b
 | (c',o')::r,c,o,h,hne=>by
  unfold qT
  split
  ·rename_i e
   rcases List.mem_cons.1 h with h|h
   ·injection h with h1 _;exact (hne (h1.trans e.symm)).elim
   ·exact h
  ·rcases List.mem_cons.1 h with h|h
   ·exact h▸ .head _
   ·exact .tail _ (UB h hne)
theorem apB:Ko Tryz.prog 55 55=some (5,1,1):=by kernel_rfl
theorem M8:∃i,Tryz.prog.info? 5=some i∧i.zero=some (.int .u8 0)∧i.size=1∧i.bytes=1:=by
 have h:(Tryz.prog.info? 5).map (fun i=>(i.zero,i.size,i.bytes))=some (some (.int .u8 0),1,1):=by kernel_rfl
 obtain ⟨i,h1,h2⟩:=Option.map_eq_some_iff.1 h
 injection h2 with h2 h3
 injection h3 with h3 h4
 exact ⟨i,h1,h2,h3,h4⟩
theorem iw (hk:KRel K w) (hh:HRel K w H) (ho:OwnAt K w (.slot 0 0) (l.map ql) v)
  (ht:(l= []∧v= .slice none 0 0)∨∃g cap c,l≠ []∧v= .slice (some ⟨g,0,none⟩) l.length cap∧w.heap[g]?=some (.cells c 5 (0,0))) (hm:m≠ []) (hlen:l.length+m.length<=1000000)
  (hs:Src Tryz.prog w K 1 (m.map ql) x) (hx:x= .slice (some ad) m.length cx) (hc:∀j y,m[j]?=some y->w.cell? (ad.add j)=some (.int .u8 y.toNat)):
  ∃ r K' w',(Builtin.append_ #[55,55] 55 #[v,x]).run Tryz.prog w= .ok r w'∧Keep (fun o=>o= .slot 0 0) dz K w K' w'∧KRel K' w'∧HRel K' w' H∧OwnAt K' w' (.slot 1 0) ((l++m).map ql) r∧
   ∃g cap c,l++m≠ []∧r= .slice (some ⟨g,0,none⟩) (l++m).length cap∧w'.heap[g]?=some (.cells c 5 (0,0)):=by
 obtain ⟨r,K',w',h1,h2,h3,h4,h5⟩:=Ww (P:=Tryz.prog) (ty:=55) hk hh apB (s:= .slot 0 0) (d:= .slot 1 0) (by simp) (by simp) (by simp) ho (Vn l) hs (by simp;omega)
 obtain ⟨i,i1,i2,i3,i4⟩:=M8
 have hown:w.ownsRow 0 5 1 v l.length (l.map fun c=>.int .u8 (c.toNat:Int)):=by
  refine ⟨by simp,?_⟩
  rcases ht with ⟨rfl,rfl⟩|⟨g,cap,c,hl,rfl,hg⟩
  ·exact .inl ⟨rfl,rfl⟩
  ·rcases ho with ⟨ho,_⟩|⟨g',cap',sz,c',T,hv,q1,q2,q3,q4,q5,q6,q7,q8,q9⟩
   ·exact (hl (by simpa using ho)).elim
   ·injection hv with e1 e2 e3
    injection e1 with e1
    injection e1 with e1
    subst e1 e3
    rw [q2] at hg
    injection hg with hg
    injection hg with hc1 hc2
    subst hc1 hc2
    have hsz:sz=1:=by
     have:=q8 0 _ (Nb q4)
     simpa [ql] using this.symm
    subst hsz
    refine .inr ⟨_,cap,_,rfl,Nat.zero_le _,q2,by simpa using q5,q6,q3,?_⟩
    apply List.ext_getElem?
    intro j
    rw [List.getElem?_take]
    by_cases hj:j<l.length
    ·rw [if_pos (by omega)]
     obtain ⟨u,g1,_,g3⟩:=q9 j (ql (l[j])) (by rw [Nf,Nb hj];rfl) 0 _ rfl
     obtain ⟨rfl,_⟩:=g3.int_inv
     rw [Nf,Nb hj]
     simpa using g1
    ·rw [if_neg (by omega),Nv (by simp;omega)]
 obtain ⟨v2,w2,g1,g2,_,g4⟩:=run_append_own (P:=Tryz.prog) (w:=w) 0 55 55 5 i (.int .u8 0) 1 1 (ju (z6 apB).1).1 i1 i2 i3 i4 rfl (by decide) v l.length _ hown ad m.length cx (m.map fun c=>.int .u8 (c.toNat:Int)) (by simp) (fun j u hu=>by
  rw [Nf,Option.map_eq_some_iff] at hu
  obtain ⟨y,hy,rfl⟩:=hu
  exact hc j y hy) (fun u hu=>by
  obtain ⟨y,_,rfl⟩:=List.mem_map.1 hu
  rfl) (by unfold maxLen;omega) (by omega) (Nat.zero_le _)
 subst hx
 rw [h1] at g1
 injection g1 with e1 e2
 subst e1 e2
 have hlm:l++m≠ []:=by simp [hm]
 have hml:0<m.length:=List.length_pos_iff.2 hm
 refine ⟨r,K',w',h1,h2,h3,h4,by rw [No];exact h5,?_⟩
 rcases g2.2 with ⟨_,q⟩|⟨g,cap,cur,q1,_,q2,_⟩
 ·omega
 ·exact ⟨g,cap,cur,hlm,by rw [q1,Nj],q2⟩
def wφ (b:Nat):Who->Who:=fun o=>if o= .cell b 1 then .slot 0 0 else o
def wψ (b:Nat):Who->Who:=fun o=>if o= .slot 1 0 then .cell b 1 else o
theorem Qj {R:D->AH->Prop} (hg:qn H b=some (.lp (BldJ b l) [])) (hm:m≠ []) (hlen:l.length+m.length<=1000000)
  (hda:∀K w v,HRel K w (qT H b)->RepV K w da v->Src Tryz.prog w K 1 (m.map ql) v∧∃ad c,v= .slice (some ad) m.length c∧∀j x,m[j]?=some x->w.cell? (ad.add j)=some (.int .u8 x.toNat))
  (h:R (.tup [.int .i64 m.length,.any]) (qM H b (.lp (BldJ b (l++m)) []))):ACall Tryz.prog 63 [.ptr b 0,da] H R:=by
 refine ⟨by kernel_rfl,fun K w vs hk hns hh hl hr=>?_⟩
 obtain ⟨v0,x,rfl⟩:∃v x,vs=#[v,x]:=by
  obtain ⟨l⟩:=vs
  match l,hl with
  | [v,x],_=>exact ⟨v,x,rfl⟩
 have hv:v0= .pointer (some ⟨b,0,none⟩):=(hr 0 _ v0 rfl rfl).ptr_inv
 subst hv
 have hrx:=hr 1 _ x rfl rfl
 obtain ⟨_,⟨hK,p,v,hw,hp,ho,ht⟩,_⟩:=hh.ok b _ (qW hg)
 have hbl:b<w.heap.size:=(Array.getElem?_eq_some_iff.1 hw).1
 have hsub:HRel K w (qT H b):=⟨(erase_sub.map (·.1)).nodup hh.nd,fun c o hm=>hh.ok c o (erase_sub.subset hm)⟩
 obtain ⟨_,ad,cx,hx,_⟩:=hda K w x hsub hrx
 -- the world behind copyCheck
 have hstep:∀w1:World,One b w w1->Keep (fun o=>∃j,o= .cell b j) (fun c=>c=b) K w (relab (wφ b) K) w1:=by
  intro w1 h1
  have hne:∀{c:Nat} {y:BK},K c=y->y≠ .tok 0 (.cell b 0)->c≠b:=fun q1 q2 e=>by rw [e,hK] at q1;exact q2 q1.symm
  refine ⟨⟨h1.os,h1.tape,h1.output,by rw [h1.size];exact Nr _,fun c _ hc=>⟨relab_imm.2 hc,h1.other c (hne hc (by simp))⟩,fun c n o hc hn=>⟨n,_,qR hc,Nr _,fun i _=>jb (h1.other c (hne hc (by intro e;injection e with e1 _;omega))) i⟩,fun c hc=>.inl (relab_priv.2 hc)⟩,fun c n o hc hnE=>?_,fun c n hc=>?_,fun c hc hcb=>⟨relab_priv.2 hc,h1.other c hcb⟩⟩
  ·refine ⟨?_,h1.other c (hne hc (by intro e;injection e with _ e2;exact hnE ⟨0,e2⟩))⟩
   rw [qR hc,wφ,if_neg (fun e=>hnE ⟨1,e⟩)]
  ·obtain ⟨o',q1,q2⟩:=kw hc
   unfold wφ at q2
   split at q2
   ·cases q2
   ·exact q2▸q1
 subst hx
 have hwr:=cS (m:=m.length) (cx:=cx) (ad:=ad) hw hp (Good:=fun w1 r w2=>∃K',Keep (fun o=>o= .slot 0 0) dz (relab (wφ b) K) w1 K' w2∧KRel K' w2∧HRel K' w2 (qT H b)∧OwnAt K' w2 (.slot 1 0) ((l++m).map ql) r∧
   ∃g cap c,l++m≠ []∧r= .slice (some ⟨g,0,none⟩) (l++m).length cap∧w2.heap[g]?=some (.cells c 5 (0,0))) (fun w1 hb1 ho1=>by
  have hk1:=hstep w1 ho1
  have hkr:KRel (relab (wφ b) K) w1:=fun c hc=>relab_imm.2 (hk c (by rw [<-ho1.size];exact hc))
  have hh1:HRel (relab (wφ b) K) w1 (qT H b):=hsub.keep hk1 (fun c o hm=>⟨kn hh.nd hm,fun j ⟨q,e⟩=>kn hh.nd hm (by injection e)⟩)
  obtain ⟨hs,ad',cx',e1,e2⟩:=hda _ w1 _ hh1 (hrx.mono hk1.ext)
  injection e1 with e3 e4 e5
  injection e3 with e3
  subst e3 e5
  have hgne:∀c n,K c= .tok n (.cell b 1)->c≠b:=fun c n hc e=>by subst e;rw [hK] at hc;injection hc with _ e;injection e with _ e;cases e
  have ho1':OwnAt (relab (wφ b) K) w1 (.slot 0 0) (l.map ql) v:=by
   have q:OwnAt K w1 (.cell b 1) (l.map ql) v:=Kw ho fun c n hc=>⟨hc,ho1.other c (hgne c n hc)⟩
   have:=uG (φ:=wφ b) q
   simpa [wφ] using this
  have ht1:(l= []∧v= .slice none 0 0)∨∃g cap c,l≠ []∧v= .slice (some ⟨g,0,none⟩) l.length cap∧w1.heap[g]?=some (.cells c 5 (0,0)):=by
   rcases ht with ht|⟨g,cap,c,q1,q2,q3⟩
   ·exact .inl ht
   ·refine .inr ⟨g,cap,c,q1,q2,?_⟩
    rw [ho1.other g (fun e=>by subst e;rw [hw] at q3;injection q3 with q3;injection q3 with _ q3;exact absurd q3 (by decide))]
    exact q3
  obtain ⟨r,K',w2,g1,g2,g3,g4,g5,g6⟩:=iw hkr hh1 ho1' ht1 hm hlen hs rfl e2
  refine ⟨r,w2,g1,?_,?_,K',g2,g3,g4,g5,g6⟩
  ·obtain ⟨g,cap,c,_,q,_⟩:=g6
   exact ⟨_,_,_,q⟩
  ·exact (g2.own b 0 (.cell b 0) (by rw [qR hK];simp [wφ]) (by simp)).2)
 refine hwr.mono ?_
 rintro e w3 ⟨rfl,w1,r,w2,hb1,ho1,hb2,⟨K',g2,g3,g4,g5,g6⟩,rfl⟩
 have hk1:=hstep w1 ho1
 have hbK:=g2.own b 0 (.cell b 0) (by rw [qR hK];simp [wφ]) (by simp)
 have hw2:w2.heap[b]?=some (.cells #[.pointer (some ⟨b,0,none⟩),v] 114 (0,0)):=hb2.trans hb1
 have hnew:=heap_setCell_same w2 b 1 _ _ r hw2
 have ho3:=One.set b 1 w2 r
 have hbl2:b<w2.heap.size:=(Array.getElem?_eq_some_iff.1 hw2).1
 generalize hw3:w2.setCell ⟨b,1,none⟩ r=w3 at hnew ho3 ⊢
 have hne:∀{c:Nat} {y:BK},K' c=y->y≠ .tok 0 (.cell b 0)->c≠b:=fun q1 q2 e=>by rw [e,hbK.1] at q1;exact q2 q1.symm
 have hk3:Keep (fun o=>o= .slot 1 0∨∃j,o= .cell b j) (fun c=>c=b) K' w2 (relab (wψ b) K') w3:=by
  refine ⟨⟨ho3.os,ho3.tape,ho3.output,by rw [ho3.size];exact Nr _,fun c _ hc=>⟨relab_imm.2 hc,ho3.other c (hne hc (by simp))⟩,fun c n o hc hn=>⟨n,_,qR hc,Nr _,fun i _=>jb (ho3.other c (hne hc (by intro e;injection e with e1 _;omega))) i⟩,fun c hc=>.inl (relab_priv.2 hc)⟩,fun c n o hc hnE=>?_,fun c n hc=>?_,fun c hc hcb=>⟨relab_priv.2 hc,ho3.other c hcb⟩⟩
  ·refine ⟨?_,ho3.other c (hne hc (by intro e;injection e with _ e2;exact hnE (.inr ⟨0,e2⟩)))⟩
   rw [qR hc,wψ,if_neg (fun e=>hnE (.inl e))]
  ·obtain ⟨o',q1,q2⟩:=kw hc
   unfold wψ at q2
   split at q2
   ·cases q2
   ·exact q2▸q1
 have hh3:HRel (relab (wψ b) K') w3 (qT H b):=g4.keep hk3 (fun c o hm=>⟨kn hh.nd hm,fun j e=>by
  rcases e with e|⟨q,e⟩
  ·cases e
  ·exact kn hh.nd hm (by injection e)⟩)
 refine ⟨_,_,_,relab (wψ b) K',rfl,h,?_,fun c hc=>relab_imm.2 (g3 c (by rw [<-ho3.size];exact hc)),⟨by rw [jW];exact hh.nd,fun c o hm=>?_⟩,?_⟩
 ·exact ((hk1.fk (fun ⟨_,e⟩=>by cases e)).trans (g2.fk (by simp))).trans (hk3.fk (by simp))
 ·rcases kY hh.nd hm with ⟨rfl,rfl⟩|⟨q1,q2⟩
  ·have hbk:relab (wψ c) K' c= .tok 0 (.cell c 0):=by rw [qR hbK.1];simp [wψ]
   refine ⟨⟨0,0,hbk⟩,⟨hbk,_,r,hnew,.inr rfl,?_,.inr ?_⟩,BldJ.ok⟩
   ·have q:OwnAt K' w3 (.slot 1 0) ((l++m).map ql) r:=Kw g5 fun d n hd=>⟨hd,ho3.other d (hne hd (by simp))⟩
    have:=uG (φ:=wψ c) q
    simpa [wψ] using this
   ·obtain ⟨g,cap,cc,q3,q4,q5⟩:=g6
    refine ⟨g,cap,cc,q3,q4,?_⟩
    rw [ho3.other g (fun e=>by subst e;rw [hw2] at q5;injection q5 with q5;injection q5 with _ q5;exact absurd q5 (by decide))]
    exact q5
  ·exact hh3.ok c o (UB q2 q1)
 ·refine ⟨_,rfl,rfl,fun i d u hd hu=>?_⟩
  match i,hd,hu with
  | 0,hd,hu=>
   simp only [Nm,Option.some.injEq] at hd
   subst hd
   simp at hu
   subst hu
   exact .int _ _ (by rw [kX];omega)
  | 1,hd,hu=>
   simp only [List.getElem?_cons_succ,Nm,Option.some.injEq] at hd
   subst hd
   exact .any _
  |i+2,hd,hu=>simp at hd
end Go.Proofs.YtgopigkdcmhbbaaGreatDoor
end
section
namespace Go.Proofs.YtgopigkdcmhbbaaGreatDoor
open Go Go.Aw Go.Shelf Go.RowKit Go.Proofs
theorem mP (hw:w.heap[b]?=some (.cells #[p,.slice (some ⟨g,0,none⟩) l.length cap] 114 (0,0))) (h0:l≠ []) (hlen:l.length<=1000000)
  (hg:w.heap[g]?=some (.cells cur 5 (0,0))) (hnc:l.length<=cap) (hcs:cur.size=cap) (hc:∀j x,l[j]?=some x->w.cell? ⟨g,j,none⟩=some (.int .u8 x.toNat)):
  Calls Tryz.prog 66 #[.pointer (some ⟨b,0,none⟩)] w fun e w'=>e= .returned (.string ⟨l.toArray⟩)∧w'=w.drew.freeze ⟨g,0,none⟩ l.length:=by
 have hl0:0<l.length:=List.length_pos_iff.2 h0
 have c1:w.drew.cell? ⟨b,1,none⟩=some (.slice (some ⟨g,0,none⟩) l.length cap):=by
  have:w.drew.heap[b]?=some (.cells #[p,.slice (some ⟨g,0,none⟩) l.length cap] 114 (0,0)):=hw
  rw [Lib.cell_of_heap this];rfl
 have hSD:(Builtin.unsafeSliceData_ #[55] 165 #[.slice (some ⟨g,0,none⟩) l.length cap]).run Tryz.prog w.drew= .ok (.pointer (some ⟨g,0,none⟩)) w.drew:=
  Lib.run_unsafeSliceData_row _ _ _ _ _ _ (by omega)
 have hUS:(Builtin.unsafeString_ #[165,3] 9 #[.pointer (some ⟨g,0,none⟩),.int .i64 l.length]).run Tryz.prog w.drew= .ok (.string ⟨l.toArray⟩) (w.drew.freeze ⟨g,0,none⟩ l.length):=by
  refine Lib.run_unsafeString_row w.drew 165 3 9 5 (by kernel_rfl) (by kernel_rfl) g cur.size (by have hg':w.drew.heap[g]?=some (.cells cur 5 (0,0)):=hg;simp [World.shape?,hg']) l h0 (by omega) (by omega) ?_
  intro j x hx
  have:=hc j x hx
  by_cases hj:j=0
  ·subst hj;simpa [Addr.add] using this
  ·simpa [Addr.add,hj] using this
 have mixed:Tryz.prog.follows .mixedOrders=true:=hmm
 go_enter Tryz.func66,Tryz.ntmps66
 go_wp2
 go_region_o
 all_goals (go_wp2;go_ret;exact ⟨rfl,rfl⟩)
theorem lN (h:l.length<=big):RepV K w (.str l) (.string ⟨l.toArray⟩):=by
 have:=@RepV.str K w l h
 exact this
theorem Wj {R:D->AH->Prop} (hg:qn H b=some (.lp (BldJ b l) [])) (h0:l≠ []) (hlen:l.length<=1000000) (h:R (.str l) (qT H b)):ACall Tryz.prog 66 [.ptr b 0] H R:=by
 have hbig:=qk
 refine ⟨by kernel_rfl,fun K w vs hk hns hh hl hr=>?_⟩
 obtain ⟨v0,rfl⟩:∃v,vs=#[v]:=by
  obtain ⟨l⟩:=vs
  match l,hl with
  | [v],_=>exact ⟨v,rfl⟩
 have hv:v0= .pointer (some ⟨b,0,none⟩):=(hr 0 _ v0 rfl rfl).ptr_inv
 subst hv
 obtain ⟨_,⟨hK,p,v,hw,hp,ho,ht⟩,_⟩:=hh.ok b _ (qW hg)
 rcases ht with ⟨e,_⟩|⟨g,cap,c,_,rfl,hgc⟩
 ·exact (h0 e).elim
 rcases ho with ⟨ho,_⟩|⟨g',cap',sz,c',T,hv,q1,q2,q3,q4,q5,q6,q7,q8,q9⟩
 ·exact (h0 (by simpa using ho)).elim
 injection hv with e1 e2 e3
 injection e1 with e1
 injection e1 with e1
 subst e1 e3
 rw [q2] at hgc
 injection hgc with hgc
 injection hgc with hc1 hc2
 subst hc1 hc2
 have hsz:sz=1:=by
  have:=q8 0 _ (Nb q4)
  simpa [ql] using this.symm
 subst hsz
 have hgne:∀{d:Nat} {y:BK},K d=y->(∀n,y≠ .tok n (.cell b 1))->d≠g:=fun e1 e2 e=>by rw [e,q1] at e1;exact e2 _ e1.symm
 refine (mP hw h0 hlen q2 (by simpa using q5) (by simpa using q3) (fun j x hx=>?_)).mono ?_
 ·obtain ⟨u,g1,_,g3⟩:=q9 j (ql x) (by rw [Nf,hx];rfl) 0 _ rfl
  obtain ⟨rfl,_⟩:=g3.int_inv
  rw [jU q2]
  simpa using g1
 ·rintro e w' ⟨rfl,rfl⟩
  have hoth:∀d,d≠g->(w.drew.freeze ⟨g,0,none⟩ l.length).heap[d]?=w.heap[d]?:=fun d hd=>by
   unfold World.freeze
   split
   ·rfl
   ·simp only [Array.getElem?_modify]
    rw [if_neg (fun e=>hd e.symm)]
    rfl
  have hcell:∀d j,(w.drew.freeze ⟨g,0,none⟩ l.length).cell? ⟨d,j,none⟩=w.cell? ⟨d,j,none⟩:=fun d j=>by
   by_cases e:d=g
   ·subst e
    unfold World.freeze
    split
    ·rfl
    ·simp only [World.cell?,Array.getElem?_modify,if_true]
     have:w.drew.heap[d]?=w.heap[d]?:=rfl
     rw [this,q2]
     rfl
   ·exact jb (hoth d e) j
  have hsz:(w.drew.freeze ⟨g,0,none⟩ l.length).heap.size=w.heap.size:=by
   unfold World.freeze
   split
   ·rfl
   ·simp only [Array.size_modify]
    rfl
  have hos:(w.drew.freeze ⟨g,0,none⟩ l.length).os=w.os∧(w.drew.freeze ⟨g,0,none⟩ l.length).tape=w.tape∧(w.drew.freeze ⟨g,0,none⟩ l.length).output=w.output∧w.drawn<=(w.drew.freeze ⟨g,0,none⟩ l.length).drawn:=by
   unfold World.freeze
   split
   ·exact ⟨rfl,rfl,rfl,Nat.le_succ _⟩
   ·exact ⟨rfl,rfl,rfl,Nat.le_succ _⟩
  generalize w.drew.freeze ⟨g,0,none⟩ l.length=w' at hoth hcell hsz hos ⊢
  have hkeep:Keep (fun o=>∃j,o= .cell b j) dz K w K w':=by
   refine ⟨⟨hos.1,hos.2.1,hos.2.2,by omega,fun d _ hd=>⟨hd,hoth d (hgne hd (by simp))⟩,fun d n o hd _=>⟨n,o,hd,Nr _,fun j _=>hcell d j⟩,fun d hd=>.inl hd⟩,fun d n o hd hE=>⟨hd,hoth d (hgne hd (fun m e=>by injection e with _ e;exact hE ⟨1,e⟩))⟩,fun _ _ h=>h,fun d hd _=>⟨hd,hoth d (hgne hd (by simp))⟩⟩
  have hsub:HRel K w (qT H b):=⟨(erase_sub.map (·.1)).nodup hh.nd,fun c o hm=>hh.ok c o (erase_sub.subset hm)⟩
  exact ⟨_,_,_,K,rfl,h,hkeep.fk (fun ⟨_,e⟩=>by cases e),fun d hd=>hk d (by omega),hsub.keep hkeep (fun d o hm=>⟨fun h=>h,fun j ⟨q,e⟩=>kn hh.nd hm (by injection e)⟩),lN (by omega)⟩
end Go.Proofs.YtgopigkdcmhbbaaGreatDoor
end
section
namespace Go.Proofs.YtgopigkdcmhbbaaGreatDoor
open Go Go.Aw
theorem eV (hb:qH H b):Aw.Sub H ((b,o)::H):=Sub.of fun c x hc=>(qg (qO hb hc)).trans hc
theorem cA (h:Aw.Sub H H1) (g:∀b o,qn H1 b=some o->qn H2 b=some o):Aw.Sub H H2:=fun b o hb=>by
 obtain ⟨o',h1,h2⟩:=h b o hb
 exact ⟨o',g b o' h1,h2⟩
def jm (val:Nat->List UInt8):Nat->List UInt8
 |0=>[]
 |n+1=>jm val n++val n
theorem wO (h:∀n,(val n).length=16):∀n,(jm val n).length=16*n
 |0=>rfl
 |n+1=>by rw [jm,Nj,wO h n,h];omega
theorem V5 {b5} (hg:qn (qT H b) b5=some (.cells (jf v))) (hv:v.length=16) (K:Nat->BK) (w:World) (x:Value) (hh:HRel K w (qT H b)) (hr:RepV K w (.hso b5 0 16) x):
  Src Tryz.prog w K 1 (v.map ql) x∧∃ad c,x= .slice (some ad) v.length c∧∀j y,v[j]?=some y->w.cell? (ad.add j)=some (.int .u8 y.toNat):=by
 have h1:=Ym (P:=Tryz.prog) hh hr hg (by rw [qt,hv];exact Nr _)
 have he:(((jf v).drop 0).take 16).map (fun e=>[e.view1])=v.map ql:=by
  rw [List.drop_zero,qI hv]
  simp only [jf,N0]
  rfl
 rw [he] at h1
 refine ⟨h1,?_⟩
 obtain ⟨cap,rfl,_,_,_,_⟩:=hr.hso_inv
 obtain ⟨_,c,T,hb,hc,hcell⟩:=hh.ok b5 _ (qW hg)
 refine ⟨_,cap,by rw [hv],fun j y hj=>?_⟩
 obtain ⟨u,e1,_,e3⟩:=hcell j (.int .u8 (y.toNat:Int)) (by simp [jf,hj,bD])
 obtain ⟨rfl,_⟩:=e3.int_inv
 have:w.cell? ⟨b5,j,none⟩=some (.int .u8 (y.toNat:Int)):=by rw [jU hb];exact e1
 by_cases hj0:j=0
 ·subst hj0;simpa [Addr.add] using this
 ·simpa [Addr.add,hj0] using this
theorem iO {R:D->AH->Prop} (hg:Kst H) (hl:∀n,(val n).length=16)
  (hval:∀n:Nat,n<68->∀H1,Aw.Sub H H1->∀R:D->AH->Prop,R (.agg (jf (val n))) H1->ACall Tryz.prog g (uv [.i (n:Int)] caps) H1 R)
  (h:R (.agg (jf (jE 1 [jE 9 [jm val 68]]))) H):ACall Tryz.prog 53 [.fn g caps] H R:=by
 refine b53 fun hf=>?_
 have hbig:=qk
 simp+contextual only [x53,↓By,↓XP,qh,qa,↓XI]
 intro b2 h2
 refine Jc (fun b=>BldJ b []) (fun b K w h1 h2=>⟨h1,_,_,h2,.inl rfl,.inl ⟨rfl,none,rfl⟩,.inl ⟨rfl,rfl⟩⟩) (fun b=>BldJ.ok) (by intro w;exact Tryz.zeroValue114 w) ?_
 intro b3 h3
 obtain ⟨n32,f3⟩:=h3
 simp+contextual only [qp]
 obtain ⟨t,ht⟩:∃t:Nat,t=68:=⟨_,rfl⟩
 have hh:R (.agg (jf (jE 1 [jE 9 [jm val t]]))) H:=by rw [ht];exact h
 clear h
 refine XW.loopS hmm 23 (fun n:Nat=>[(0,.fn g caps),(2,.ptr b2 0),(3,.ptr b3 0),(7,.i (n:Int))]) (fun n=>(b3,.lp (BldJ b3 (jm val n)) [])::(b2,.cells (barr 16 []))::H) (fun n=>t - n) (fun n=>n<=t) 0 (Nat.zero_le _) ⟨rfl,rfl,rfl,rfl,rfl,trivial⟩ rfl ?_
 intro n z hn K hN hE hR
 dsimp only [fl,zz,qa,qb]
 have hkl:=wO hl n
 have hst:jm val (n+1)=jm val n++val n:=rfl
 have hh2:n=t->R (.agg (jf (jE 1 [jE 9 [jm val n]]))) H:=fun e=>by rw [e];exact hh
 generalize jm val n=w at hkl hst hh2
 have hg2:Kst ((b2,.cells (barr 16 []))::H):=hg.push h2
 have hs3:Aw.Sub H ((b3,.lp (BldJ b3 w) [])::(b2,.cells (barr 16 []))::H):=cA (eV h2) fun c o hc=>(qg (qO (H:=(b2,.cells (barr 16 []))::H) ⟨n32,f3⟩ hc)).trans hc
 by_cases hlt:n<t
 ·have hlt':((n:Int)<68)=True:=qo
  simp+contextual only [hlt',↓By,↓XP,qp]
  refine hval n (by omega) _ hs3 _ ?_
  have hvl:=hl n
  generalize val n=v at hvl hst
  simp+contextual only [qt,Nat.mul_one,Nat.sub_zero,hvl,↓JX,qh,XW1,qb,qe,↓XH]
  intro b5 h5
  obtain ⟨n53,n52,f5⟩:=h5
  have hge:qn (qT ((b5,.cells (jf v))::(b3,.lp (BldJ b3 w) [])::(b2,.cells (barr 16 []))::H) b3) b5=some (.cells (jf v)):=by simp [qT,qn,n53]
  refine Qj (l:=w) (m:=v) (by simp [qn,n53]) (by intro e;rw [e] at hvl;simp at hvl) (by omega) (V5 hge hvl) ?_
  simp+contextual only [qm,n53,<-hst,↓XP,qp,XW1]
  rw [qj (by omega)]
  exact hN (n+1) _ _ (by omega) (by omega) ⟨rfl,rfl,rfl,rfl,rfl,trivial⟩ (kK rfl)
 ·have hnt:n=t:=by omega
  have hlt':((n:Int)<68)=False:=qy
  simp+contextual only [hlt',↓By,↓XP,qp]
  apply hE
  have h:=hh2 hnt
  simp+contextual only [↓By,↓XP,qp,XW1]
  have hwn:w≠ []:=by intro e;rw [e] at hkl;simp at hkl;omega
  refine Wj (l:=w) (by simp [qn]) hwn (by omega) ?_
  simp+contextual only [Nat.mul_one,vY,↓XP,qh,XW1,qe]
  refine fun _=>Ut (c:=9) (l:= [w]) hg2 (by decide) (by simp) (fun x hx=>by rw [List.mem_singleton.1 hx];omega) ?_
  have h9:=jO 9 [w]
  generalize jE 9 [w]=k9 at h9 h
  simp+contextual only [qt,Nat.mul_one,Nat.sub_zero,h9,↓By,↓JX,qh,XW1,qb,qe,↓XH]
  intro b6 h6
  obtain ⟨n62,f6⟩:=h6
  simp+contextual only [qt,h9,qI h9,gB]
  have hg3:Kst ((b6,.cells (jf k9))::(b2,.cells (barr 16 []))::H):=hg2.push ⟨Ne.symm n62,f6⟩
  refine ⟨zb _,fun _=>Ut (c:=1) (l:= [k9]) hg3 (by decide) (by simp) (fun x hx=>by rw [List.mem_singleton.1 hx];omega) ?_⟩
  have h1:=jO 1 [k9]
  generalize jE 1 [k9]=k1 at h1 h
  simp+contextual only [qt,qg,qm,n62,h1,qI h1,j3,show (barr 16 []).drop 16= [] from rfl,show (barr 16 []).length=16 from rfl,↓XP,qh,XW1]
  exact h
end Go.Proofs.YtgopigkdcmhbbaaGreatDoor
end
section
namespace Go.Aw
open Go Go.RowKit
section
variable {κ α:Type} [DecidableEq κ]
def Jv:List (κ×α)->κ->Option α
 | [],_=>none
 |p::r,k=>if k=p.1 then some p.2 else Jv r k
def Vw:List (κ×α)->κ->α->List (κ×α)
 | [],k,v=>[(k,v)]
 |p::r,k,v=>if k=p.1 then (k,v)::r else p::Vw r k v
theorem fA {m:List (κ×α)} {k:κ} {v:α} (h:Jv m k=some v):(k,v)∈m:=by
 induction m with
 |nil=>cases h
 | cons p r ih=>
  simp only [Jv] at h
  split at h
  ·rename_i e
   injection h with h
   subst e h
   exact .head _
  ·exact .tail _ (ih h)
theorem mw {m:List (κ×α)} {k:κ} {v:α} {p:κ×α} (h:p∈Vw m k v):p=(k,v)∨p∈m:=by
 induction m with
 |nil=>exact .inl (by simpa [Vw] using h)
 | cons q r ih=>
  unfold Vw at h
  split at h
  ·rcases List.mem_cons.1 h with h|h
   ·exact .inl h
   ·exact .inr (.tail _ h)
  ·rcases List.mem_cons.1 h with h|h
   ·exact .inr (h▸ .head _)
   ·rcases ih h with h|h
    ·exact .inl h
    ·exact .inr (.tail _ h)
structure KeyOk (kc:κ->List D) (l:List CT):Prop where
 eq:∀a b,eqCells (kc a) (kc b)=decide (a=b)
 fit:∀a,fits l (kc a)
 same:∀a b,sameK (kc a) (kc b)
variable {kc:κ->List D} {l:List CT} {vd:α->D} {m:List (κ×α)} {k:κ}
def ve (kc:κ->List D) (vd:α->D) (m:List (κ×α)):List (D×D):=m.map fun p=>(.agg (kc p.1),vd p.2)
theorem Wg (h:KeyOk kc l):ym true l (ve kc vd m) (.agg (kc k)):=by
 refine ⟨rfl,h.fit k,fun p hp=>?_⟩
 obtain ⟨q,_,rfl⟩:=List.mem_map.1 hp
 exact ⟨rfl,h.fit _,h.same _ _⟩
theorem d8 (h:KeyOk kc l):ya (ve kc vd m) (kc k)=(Jv m k).map vd:=by
 induction m with
 |nil=>rfl
 | cons p r ih=>
  show (if eqCells (kc k) (cellsOf (.agg (kc p.1)))=true then some (vd p.2) else ya (ve kc vd r) (kc k))=_
  rw [show cellsOf (.agg (kc p.1))=kc p.1 from rfl,h.eq,ih]
  simp only [Jv,decide_eq_true_eq]
  split<;>rfl
theorem fR (h:KeyOk kc l):oG (ve kc vd m) (.agg (kc k)) (vd v)=ve kc vd (Vw m k v):=by
 induction m with
 |nil=>rfl
 | cons p r ih=>
  show (if eqCells (kc k) (cellsOf (.agg (kc p.1)))=true then (.agg (kc k),vd v)::ve kc vd r else (.agg (kc p.1),vd p.2)::oG (ve kc vd r) (.agg (kc k)) (vd v))=_
  rw [show cellsOf (.agg (kc p.1))=kc p.1 from rfl,h.eq,ih]
  simp only [Vw,decide_eq_true_eq]
  split<;>rfl
end
end Go.Aw
end
section
namespace Go.Proofs.YtgopigkdcmhbbaaGreatDoor
open Go Go.Aw
variable {R:D->AH->Prop}
def YC (p:Nat×Nat):List D:= [.i (p.1:Int),.i (p.2:Int)]
def Vz (v:List UInt8):D:= .agg (jf v)
theorem am:KeyOk YC [.i,.i]:=by
 refine ⟨fun a b=>?_,fun a=>?_,fun a b=>?_⟩
 ·obtain ⟨a1,a2⟩:=a
  obtain ⟨b1,b2⟩:=b
  by_cases h1:a1=b1<;>by_cases h2:a2=b2<;>simp [YC,eqCells,cellEq,h1,h2,Int.ofNat_inj]
 ·simp [YC,fits]
 ·simp [YC,sameK]
abbrev Mem:=List ((Nat×Nat)×List UInt8)
def MemOk (seed:List UInt8) (m:Mem):Prop:=∀p∈m,p.2=jp seed p.1.1 p.1.2
theorem MemOk.look (h:MemOk seed m) (hv:Jv m k=some v):v=jp seed k.1 k.2:=h (k,v) (fA hv)
theorem MemOk.upd (h:MemOk seed m) (k:Nat×Nat):MemOk seed (Vw m k (jp seed k.1 k.2)):=fun p hp=>by
 rcases mw hp with rfl|hp
 ·rfl
 ·exact h p hp
def MemJ (seed:List UInt8) (b:Nat):List D->(Nat->BK)->World->Prop:=fun _ K w=>K b= .tok 0 (.cell b 0)∧∃m:Mem,MemOk seed m∧MpAt K w b (ve YC Vz m)
theorem Zv (h:RepV K w (.agg cs) v) (hc:∀d∈cs,∃k n,d= .int k n):RepV K' w' (.agg cs) v:=by
 cases h with
 | agg _ vs hl hone hrep=>
  refine .agg _ vs hl hone fun j d u hd hu=>?_
  obtain ⟨k,n,rfl⟩:=hc d (Nn hd)
  obtain ⟨rfl,hin⟩:=(hrep j _ u hd hu).int_inv
  exact .int _ _ hin
theorem Yx (h:MpAt K w b (ve YC Vz m)) (hb:w'.heap[b]?=w.heap[b]?):MpAt K' w' b (ve YC Vz m):=by
 obtain ⟨c,h1,h2,h3⟩:=h
 refine ⟨c,hb.trans h1,h2,fun j p hp=>?_⟩
 obtain ⟨e,e1,e2,e3,e4⟩:=h3 j p hp
 obtain ⟨q,_,rfl⟩:=List.mem_map.1 (Nn hp)
 refine ⟨e,e1,e2,Zv e3 fun d hd=>?_,Zv e4 fun d hd=>?_⟩
 ·simp only [YC,Nu,N2,or_false] at hd
  rcases hd with rfl|rfl<;>exact ⟨_,_,rfl⟩
 ·obtain ⟨y,_,rfl⟩:=List.mem_map.1 hd
  exact ⟨_,_,rfl⟩
theorem MemJ.ok:mR b (MemJ seed b):=by
 intro pre K w K' w' h hk
 obtain ⟨h1,m,h2,h3⟩:=h
 have g:=hk b 0 0 h1
 exact ⟨g.1,m,h2,Yx h3 g.2⟩
theorem reown (hs:St K w F H t) (hg:qn H b=some o) (hlt:b<w.heap.size) (hx:x= .priv∨∃j,x= .tok 0 (.cell b j)) (hK:K b= .priv∨∃j,K b= .tok 0 (.cell b j))
  (ho:AO.at_ (Qw K b x) w b o'):∃K',FK K w K' w∧St K' w F (qM H b o') t:=by
 have hne:∀{c:Nat} {y:BK},K c=y->y≠ .priv->(∀j,y≠ .tok 0 (.cell b j))->c≠b:=fun q1 q2 q3 e=>by
  rw [e] at q1
  rcases hK with h|⟨j,h⟩
  ·exact q2 (q1.symm.trans h)
  ·exact q3 j (q1.symm.trans h)
 have hk':Keep (fun o=>∃j,o= .cell b j) (fun c=>c=b) K w (Qw K b x) w:=by
  refine ⟨⟨rfl,rfl,⟨rfl,Nr _⟩,Nr _,fun c _ hc=>⟨?_,rfl⟩,fun c n o hc hn=>⟨n,o,?_,Nr _,fun _ _=>rfl⟩,fun c hc=>?_⟩,fun c n o hc hE=>⟨?_,rfl⟩,fun c n hc=>?_,fun c hc hcb=>⟨?_,rfl⟩⟩
  ·rw [j7 _ _ (hne hc (by simp) (by simp))];exact hc
  ·rw [j7 _ _ (hne hc (by simp) (by intro j e;injection e with e _;omega))];exact hc
  ·by_cases e:c=b
   ·exact .inr (by rw [e];exact hlt)
   ·exact .inl (by rw [j7 _ _ e];exact hc)
  ·rw [j7 _ _ (hne hc (by simp) (fun j e=>by injection e with _ e;exact hE ⟨j,e⟩))];exact hc
  ·by_cases e:c=b
   ·subst e
    rw [jx] at hc
    rcases hx with rfl|⟨j,rfl⟩
    ·cases hc
    ·injection hc with _ hc;cases hc
   ·rwa [j7 _ _ e] at hc
  ·rw [j7 _ _ hcb];exact hc
 refine ⟨Qw K b x,hk'.fk (fun ⟨_,e⟩=>by cases e),⟨fun c hc=>?_,⟨by rw [jW];exact hs.hrel.nd,fun c q hm=>?_⟩,hs.len,fun i d v hd hv=>(hs.slot i d v hd hv).keep hk' (fun j ⟨_,e⟩=>by cases e)⟩⟩
 ·rw [j7 _ _ (by omega)];exact hs.krel c hc
 ·rcases kY hs.hrel.nd hm with ⟨rfl,rfl⟩|⟨q1,q2⟩
  ·exact ho
  ·exact AO.keep hk' q1 (fun j ⟨_,e⟩=>q1 (by injection e)) (hs.hrel.ok c q q2)
theorem Gz.memClose {k:List D->AH->Prop} (hg:qn H b=some (.mp (ve YC Vz m))) (hm:MemOk seed m) (h:k F (qM H b (.lp (MemJ seed b) []))):Gz F H k:=by
 intro K w t hs
 obtain ⟨h1,h2⟩:=hs.hrel.ok b _ (qW hg)
 obtain ⟨K',g1,g2⟩:=reown hs hg (hs.krel.lt_of (by rw [h1];simp)) (x:= .tok 0 (.cell b 0)) (.inr ⟨0,rfl⟩) (.inl h1) (o':= .lp (MemJ seed b) []) ⟨⟨0,0,jx _ _ _⟩,⟨jx _ _ _,m,hm,Yx h2 rfl⟩,MemJ.ok⟩
 exact ⟨F,_,K',h,g1,g2⟩
theorem Gz.memOpen {k:List D->AH->Prop} (hg:qn H b=some (.lp (MemJ seed b) [])) (h:∀m,MemOk seed m->k F (qM H b (.mp (ve YC Vz m)))):Gz F H k:=by
 intro K w t hs
 obtain ⟨_,⟨h1,m,hm,h2⟩,_⟩:=hs.hrel.ok b _ (qW hg)
 obtain ⟨K',g1,g2⟩:=reown hs hg (hs.krel.lt_of (by rw [h1];simp)) (x:= .priv) (.inl rfl) (.inr ⟨0,h1⟩) (o':= .mp (ve YC Vz m)) ⟨jx _ _ _,Yx h2 rfl⟩
 exact ⟨F,_,K',h m hm,g1,g2⟩
theorem eR {i c f t:Int} {n:Nat} {v:List UInt8} {H:AH} (ht:t=f+n) (hg:Kst H) (hv:v.length=16) (hf0:0<=f) (hfn:f+n<=1000) (h:R (.agg (jf (wi i c v f n))) H):
  ACall Tryz.prog 55 [.i i,.i c,.i f,.i t,.agg (jf v)] H R:=by
 subst ht
 exact cZ hg hv hf0 hfn h
theorem Kz (hd:∀x:D,d=x.view1->x=d) (h:qn H b=some (.cells [d])) (hs:Aw.Sub H H1):qn H1 b=some (.cells [d]):=by
 obtain ⟨o',g1,g2⟩:=hs _ _ h
 rcases g2 with rfl|g2
 ·exact g1
 ·cases o' with
  | cells cs=>
   simp only [Up,AO.cells.injEq] at g2
   match cs,g2 with
   | [x],g2=>
    simp only [List.map_cons,List.map_nil,List.cons.injEq,and_true] at g2
    rw [g1,hd x g2]
   | [],g2=>simp at g2
   |_::_::_,g2=>simp at g2
  |_=>simp [Up] at g2
theorem dM (h:qn H b=some (.cells [.i k])) (hs:Aw.Sub H H1):qn H1 b=some (.cells [.i k]):=Kz (fun x hx=>by cases x<;>simp_all [D.view1]) h hs
theorem eF (h:qn H b=some (.cells [.str k])) (hs:Aw.Sub H H1):qn H1 b=some (.cells [.str k]):=Kz (fun x hx=>by cases x<;>simp_all [D.view1]) h hs
theorem tW {J:List D->(Nat->BK)->World->Prop} (h:qn H b=some (.lp J pre)) (hs:Aw.Sub H H1):qn H1 b=some (.lp J pre):=by
 obtain ⟨o',g1,g2⟩:=hs _ _ h
 rcases g2 with rfl|g2
 ·exact g1
 ·cases o' with
  |lp J' pre'=>simp only [Up] at g2;rw [g2];exact g1
  |_=>simp [Up] at g2
def Ar (seed:List UInt8) (k:Int) (c:Nat):List UInt8:=wi k c (yh seed k c) 0 3
theorem mQ (seed:List UInt8) (k:Int) (c:Nat):(Ar seed k c).length=16:=yG (yO _ _ _) _
theorem nF {seed:List UInt8} {k:Int} {c bk bs:Nat} {H:AH} (hg:Kst H) (hk:qn H bk=some (.cells [.i k])) (hs:qn H bs=some (.cells [.str seed])) (hl:seed.length<=64) (h:R (.agg (jf (Ar seed k c))) H):
  ACall Tryz.prog 83 [.i (c:Int),.ptr bk 0,.ptr bs 0] H R:=by
 refine b83 fun hf=>?_
 have hbig:=qk
 simp+contextual only [↓U83,↓U83.1,↓XP,qh,qa,qb]
 intro b4 h4
 have e1:=qO h4 hk
 have e2:=qO h4 hs
 simp+contextual only [qg e1,qg e2,hk,hs,↓XP,qh,XW1]
 have hK:Kst ((b4,.cells (barr 16 []))::H):=hg.push h4
 refine fun _ _=>⟨_,fun H1 hs1=>ae (hK.sub hs1) hl ⟨rfl,rfl⟩,?_⟩
 rw [show Ar seed k c=wi k c (yh seed k c) 0 3 from rfl] at h
 have hsl:=yO seed k c
 generalize yh seed k c=u at hsl h
 simp+contextual only [↓XP,qp,XW1]
 refine ⟨_,fun H1 hs1=>eR (n:=3) rfl (hK.sub hs1) hsl (by omega) (by omega) ⟨rfl,rfl⟩,?_⟩
 have hal:=yG (i:=k) (c:=c) (f:=0) hsl 3
 generalize wi k c u 0 3=a at hal h
 simp+contextual only [qt,hal,qI hal,j3,↓XP,qh,XW1,qb]
 exact h
theorem bc (seed:List UInt8) (k:Int):∀n,JK seed k n=jm (Ar seed k) n
 |0=>rfl
 |n+1=>by rw [JK,jm,bc seed k n];rfl
theorem pa (seed:List UInt8) (k:Nat):jp seed 0 k=jE 1 [jE 9 [jm (Ar seed k) 68]]:=by
 rw [jp,WC,bc]
theorem Qp:∀{H:AH},qn H b=some o->qM H b o=H
 | (c,x)::r,h=>by
  by_cases e:b=c
  ·subst e
   rw [ji] at h
   injection h with h
   rw [wT,h]
  ·rw [qg e] at h
   rw [qm e,Qp h]
def U2 (bm bs ba:Nat):D:= .fn 82 [.ptr bm 0,.ptr bs 0,.ptr ba 0]
structure NodeH (H:AH) (seed:List UInt8) (bm bM bs ba:Nat):Prop where
 m:qn H bm=some (.cells [.mp (some bM)])
 M:qn H bM=some (.lp (MemJ seed bM) [])
 s:qn H bs=some (.cells [.str seed])
 a:qn H ba=some (.cells [U2 bm bs ba])
theorem aU (h:∀bs bM bm ba,qH H bs->(bM≠bs∧qH H bM)->(bm≠bM∧bm≠bs∧qH H bm)->(ba≠bm∧ba≠bM∧ba≠bs∧qH H ba)->
   R (U2 bm bs ba) ((ba,.cells [U2 bm bs ba])::(bm,.cells [.mp (some bM)])::(bM,.lp (MemJ seed bM) [])::(bs,.cells [.str seed])::H)):ACall Tryz.prog 41 [.str seed] H R:=by
 refine r41 fun hf=>?_
 have hbig:=qk
 simp+contextual only [x41,↓U41,↓JX,qh,XW1,qa]
 intro bs h1 bM h2 bm h3
 refine Gz.memClose (seed:=seed) (b:=bM) (m:= []) ?_ (fun p hp=>by cases hp) ?_
 ·simp [qn,h3.1,ve]
 obtain ⟨n21,f2⟩:=h2
 obtain ⟨n32,n31,f3⟩:=h3
 simp+contextual only [zM,QT,qm,wT,n32,↓U41,↓XP,qh,XW1]
 intro ba h4
 exact ⟨_,Sbn.sub (List.Sublist.refl _),h bs bM bm ba h1 ⟨Ne.symm n21,f2⟩ ⟨Ne.symm n32,Ne.symm n31,f3⟩ ⟨Ne.symm h4.1,Ne.symm h4.2.1,Ne.symm h4.2.2.1,h4.2.2.2⟩⟩
theorem NodeH.push (h:NodeH H seed bm bM bs ba) (hb:qH H b):NodeH ((b,o)::H) seed bm bM bs ba:=
 ⟨(qg (qO hb h.m)).trans h.m,(qg (qO hb h.M)).trans h.M,(qg (qO hb h.s)).trans h.s,(qg (qO hb h.a)).trans h.a⟩
theorem NodeH.sub (h:NodeH H seed bm bM bs ba) (hs:Aw.Sub H H1):NodeH H1 seed bm bM bs ba:=
 ⟨Kz (fun x hx=>by cases x<;>simp_all [D.view1]) h.m hs,tW h.M hs,eF h.s hs,Kz (fun x hx=>by cases x<;>simp_all [D.view1,U2]) h.a hs⟩
theorem NodeH.ne (h:NodeH H seed bm bM bs ba):bM≠bm∧bM≠bs∧bM≠ba:=by
 refine ⟨fun e=>?_,fun e=>?_,fun e=>?_⟩<;>subst e
 ·have:=h.M.symm.trans h.m;simp at this
 ·have:=h.M.symm.trans h.s;simp at this
 ·have:=h.M.symm.trans h.a;simp at this
theorem KU (hl:seed.length<=64):∀(l k:Nat) {H:AH} {R:D->AH->Prop} {bm bM bs ba:Nat},Kst H->NodeH H seed bm bM bs ba->(k+1)*2 ^ l<=100000->l<=16->R (.agg (jf (jp seed l k))) H->
  ACall Tryz.prog 82 [.i (l:Int),.i (k:Int),.ptr bm 0,.ptr bs 0,.ptr ba 0] H R:=by
 intro l
 induction l using Nat.strongRecOn with
 |_ l ih=>
 intro k H R bm bM bs ba hg hn hk hl16 h
 obtain ⟨q1,q2,q3⟩:=hn.ne
 refine b82 fun hf=>?_
 have hbig:=qk
 simp+contextual only [x82,↓CY,↓KR,↓XP,qh,XW1,qa,qb]
 intro b6 h6 b7 h7
 obtain ⟨n76,f7⟩:=h7
 have m6:bM≠b6:=qO h6 hn.M
 have m7:bM≠b7:=qO f7 hn.M
 have a6:bm≠b6:=qO h6 hn.m
 have a7:bm≠b7:=qO f7 hn.m
 have nb:=jI seed l k
 refine Gz.memOpen (seed:=seed) (b:=bM) (by rw [qg m7,qg m6];exact hn.M) fun m hm=>?_
 rw [qm m7,qm m6]
 have hM1:qn (qM H bM (.mp (ve YC Vz m))) bM=some (.mp (ve YC Vz m)):=Jp (by rw [hn.M];rfl)
 have hm1:qn (qM H bM (.mp (ve YC Vz m))) bm=some (.cells [.mp (some bM)]):=(aM (Ne.symm q1)).trans hn.m
 have hky:ym true [.i,.i] (ve YC Vz m) (.agg [.i (l:Int),.i (k:Int)]):=Wg (k:=(l,k)) am
 have hlk:ya (ve YC Vz m) [.i (l:Int),.i (k:Int)]=(Jv m (l,k)).map Vz:=d8 (k:=(l,k)) am
 have h1b:∀x:List UInt8,(jf x).map D.wk1=jf x:=fun x=>by simp [jf,bD,D.wk1,Function.comp_def]
 rcases hlp:Jv m (l,k) with _|v
 ·rw [hlp] at hlk
  simp+contextual only [qg a7,qg a6,qg m7,qg m6,qg n76,ji,hM1,hm1,hky,hlk,oQ,D.wkT,Option.map_none,↓CY,↓KR,↓JX,qh,XW1,qb,qe]
  intro _ b8 h8
  obtain ⟨n87,n86,f8⟩:=h8
  have m8:bM≠b8:=qO f8 hn.M
  refine Gz.memClose (seed:=seed) (b:=bM) (m:=m) (by rw [qg m8,qg m7,qg m6];exact hM1) hm ?_
  rw [qm m8,qm m7,qm m6,Qo,Qp hn.M]
  simp only [↓CY,↓KR,↓XP,qh,XW1]
  intro zV h10
  obtain ⟨n108,n107,n106,f10⟩:=h10
  have hn4:NodeH ((zV,.cells (barr 16 []))::(b8,.cells (barr 16 []))::(b7,.cells (barr 16 []))::(b6,.cells [.i (k:Int)])::H) seed bm bM bs ba:=(((hn.push h6).push ⟨Ne.symm n76,f7⟩).push ⟨Ne.symm n87,Ne.symm n86,f8⟩).push ⟨Ne.symm n108,Ne.symm n107,Ne.symm n106,f10⟩
  have hg4:Kst ((zV,.cells (barr 16 []))::(b8,.cells (barr 16 []))::(b7,.cells (barr 16 []))::(b6,.cells [.i (k:Int)])::H):=(((hg.push h6).push ⟨Ne.symm n76,f7⟩).push ⟨Ne.symm n87,Ne.symm n86,f8⟩).push ⟨Ne.symm n108,Ne.symm n107,Ne.symm n106,f10⟩
  have hk6:qn ((zV,.cells (barr 16 []))::(b8,.cells (barr 16 []))::(b7,.cells (barr 16 []))::(b6,.cells [.i (k:Int)])::H) b6=some (.cells [.i (k:Int)]):=by
   rw [qg n106,qg n86,qg n76,ji]
  have m10:bM≠zV:=qO f10 hn.M
  have a10:bm≠zV:=qO f10 hn.m
  have a8:bm≠b8:=qO f8 hn.m
  have c6:ba≠b6:=qO h6 hn.a
  have c7:ba≠b7:=qO f7 hn.a
  have c8:ba≠b8:=qO f8 hn.a
  have c10:ba≠zV:=qO f10 hn.a
  have hna:qn H ba=some (.cells [.fn 82 [.ptr bm 0,.ptr bs 0,.ptr ba 0]]):=hn.a
  rcases Nat.eq_zero_or_pos l with hl0|hl0
  case' inl=>
   refine ⟨fun _=>?_,fun c=>absurd (show (l:Int)=0 by omega) c⟩
   refine iO (val:=Ar seed k) hg4 (mQ seed k) (fun n hn2 H1 hs1 R1 hr1=>nF (hg4.sub hs1) (dM hk6 hs1) (eF hn4.s hs1) hl hr1) ?_
   have hlf:jE 1 [jE 9 [jm (Ar seed k) 68]]=jp seed l k:=by rw [hl0];exact (pa seed k).symm
   rw [hlf]
  case' inr=>
   have hl0':((l:Int)=0)=False:=qy
   obtain ⟨l',hl1⟩:=Nat.exists_eq_succ_of_ne_zero (Nat.pos_iff_ne_zero.1 hl0)
   have hpw:2 ^ l=2*2 ^ l':=by rw [hl1,Nat.pow_succ];omega
   have hp0:1<=2 ^ l':=Nat.one_le_two_pow
   have hk1:(2*k+1)*2 ^ l'<=100000:=Nq (by rw [hpw,<-Nat.mul_assoc];exact Nat.mul_le_mul_right _ (by omega)) hk
   have hk2:(2*k+1+1)*2 ^ l'<=100000:=Nq (by rw [hpw,<-Nat.mul_assoc];exact Nat.mul_le_mul_right _ (by omega)) hk
   have hkk:k<=100000:=by
    have:=Nat.le_mul_of_pos_right (2*k+1) hp0
    omega
   have hw1:IntKind.i64.wrap ((l:Int) - 1)=(l':Int):=by rw [qi (by omega) (by omega)];omega
   have hw2:IntKind.i64.wrap (2*(k:Int))=((2*k:Nat):Int):=by rw [qi (by omega) (by omega)];omega
   have hw3:IntKind.i64.wrap (((2*k:Nat):Int)+1)=((2*k+1:Nat):Int):=qj (by omega)
   simp+contextual only [hl0',qg c10,qg c8,qg c7,qg c6,hna,qg n106,qg n86,qg n76,ji,hw1,hw2,↓KR,↓XP,qh,XW1]
   refine fun _=>⟨_,fun H1 hs1=>ih l' (by omega) (2*k) (hg4.sub hs1) (hn4.sub hs1) hk1 (by omega) ⟨rfl,rfl⟩,?_⟩
   have n0:=jI seed l' (2*k)
   have n1:=jI seed l' (2*k+1)
   have hns:jp seed l k=jE 2 [jp seed l' (2*k),jp seed l' (2*k+1)]:=by rw [hl1];rfl
   simp+contextual only [qg c10,qg c8,qg c7,qg c6,hna,qg n106,qg n86,qg n76,ji,hw1,hw2,hw3,↓KR,↓XP,qh,XW1]
   refine fun _=>⟨_,fun H1 hs1=>ih l' (by omega) (2*k+1) (hg4.sub hs1) (hn4.sub hs1) hk2 (by omega) ⟨rfl,rfl⟩,?_⟩
   generalize jp seed l' (2*k)=a at n0 hns ⊢
   generalize jp seed l' (2*k+1)=a2 at n1 hns ⊢
   simp+contextual only [↓KR,↓XP,qp,XW1]
   refine ⟨_,fun H1 hs1=>ZF (hg4.sub hs1) n0 n1 ⟨rfl,rfl⟩,?_⟩
   rw [<-hns]
  all_goals simp+contextual only [qt,nb,↓CY,↓KR,↓XP,qh,XW1,qb]
  all_goals refine Gz.memOpen (seed:=seed) (b:=bM) (by rw [qg m10,qg m8,qg m7,qg m6];exact hn.M) fun m2 hm2=>?_
  all_goals rw [qm m10,qm m8,qm m7,qm m6]
  all_goals have hM2:qn (qM H bM (.mp (ve YC Vz m2))) bM=some (.mp (ve YC Vz m2)):=Jp (by rw [hn.M];rfl)
  all_goals have hm2':qn (qM H bM (.mp (ve YC Vz m2))) bm=some (.cells [.mp (some bM)]):=(aM (Ne.symm q1)).trans hn.m
  all_goals have hky2:ym true [.i,.i] (ve YC Vz m2) (.agg [.i (l:Int),.i (k:Int)]):=Wg (k:=(l,k)) am
  all_goals have hup2:oG (ve YC Vz m2) (.agg [.i (l:Int),.i (k:Int)]) (.agg (jf (jp seed l k)))=ve YC Vz (Vw m2 (l,k) (jp seed l k)):=fR (k:=(l,k)) am
  all_goals have hok2:=hm2.upd (l,k)
  all_goals simp+contextual only [qt,qg a10,qg a8,qg a7,qg a6,qg m10,qg m8,qg m7,qg m6,qm m10,qm m8,qm m7,qm m6,qg n106,qg n86,qg n76,ji,hM2,hm2',hky2,hup2,nb,qI nb,j3,Qo,↓KR,↓JX,qh,XW1,qb,qe]
  all_goals refine fun _=>Gz.memClose (seed:=seed) (b:=bM) (m:=Vw m2 (l,k) (jp seed l k)) (by rw [qg m10,qg m8,qg m7,qg m6];exact Jp (by rw [hn.M];rfl)) hok2 ?_
  all_goals rw [qm m10,qm m8,qm m7,qm m6,Qo,Qp hn.M]
  all_goals simp+contextual only [qt,qg n107,qm n107,qg n87,qm n87,nb,qI nb,j3,↓KR,↓XP,qh,XW1,qb]
  all_goals exact h
 ·rw [hlp] at hlk
  have hv:v=jp seed l k:=hm.look hlp
  rw [<-hv] at h nb
  simp+contextual only [qt,qg a7,qg a6,qg m7,qg m6,qg n76,ji,hM1,hm1,hky,hlk,oQ,D.wkT,Option.map_some,Vz,h1b,↓CY,↓KR,↓JX,qh,XW1,qb,qe]
  intro _ b8 h8
  obtain ⟨n87,n86,f8⟩:=h8
  have m8:bM≠b8:=qO f8 hn.M
  refine ⟨nb,?_⟩
  refine Gz.memClose (seed:=seed) (b:=bM) (m:=m) (by rw [qg m8,qg m7,qg m6];exact hM1) hm ?_
  rw [qm m8,qm m7,qm m6,Qo,Qp hn.M]
  simp+contextual only [qt,qg n87,qm n87,nb,qI nb,j3,↓KR,↓XP,qh,XW1,qb]
  exact h
def WK (h:Int):Bool:=decide (0<=h)&&decide (h<=6)
theorem Yc (hR:R (.bool (WK h)) H):ACall Tryz.prog 40 [.i h] H R:=by
 refine b40 fun hf=>?_
 have hbig:=qk
 by_cases h2:0<=h
 ·have e2:((0:Int)<=h)=True:=eq_true h2
  by_cases h3:h<=6
  ·have e3:(h<=6)=True:=eq_true h3
   rw [WK,decide_eq_true h2,decide_eq_true h3] at hR
   simp+contextual only [↓U40,e2,e3,↓U40.1,↓XP,qp,qa]
   exact hR
  ·have e3:(h<=6)=False:=eq_false h3
   rw [WK,decide_eq_true h2,decide_eq_false h3] at hR
   simp+contextual only [↓U40,e2,e3,↓U40.1,↓XP,qp,qa]
   exact hR
 ·have e2:((0:Int)<=h)=False:=eq_false h2
  rw [WK,decide_eq_false h2] at hR
  simp+contextual only [↓U40,e2,↓U40.1,↓XP,qp,qa]
  exact hR
def ca (seed:List UInt8) (i:Int):D:=if v8 seed i=true then .tup [.agg (jf (jp seed i.toNat 0)),.i 0] else .tup [.agg (barr 16 []),.i 1]
theorem me (seed:List UInt8) (i:Int):v8 seed i=(decide (seed.length=32)&&WK i):=by
 simp [v8,WK]
theorem We (hg:Kst H) (h:R (ca seed i) H):ACall Tryz.prog 20 [.str seed,.i i] H R:=by
 refine b20 fun hf=>?_
 have hbig:=qk
 by_cases h1:seed.length=32
 ·have e1:decide (((seed.length:Nat):Int)=32)=true:=decide_eq_true (by omega)
  simp only [↓pP,e1,Bool.not_true,↓pP,↓XP,qh,qa,qb]
  intro b4 h4 _
  refine Yc ?_
  have hks:v8 seed i=WK i:=by rw [me,decide_eq_true h1,Bool.true_and]
  by_cases hk:WK i=true
  ·have hk2:=hks.trans hk
   obtain ⟨_,hi1,hi2⟩:seed.length=32∧0<=i∧i<=6:=of_decide_eq_true hk2
   rw [ca,if_pos hk2] at h
   simp+contextual only [hk,↓pP,↓XP,qp,XW1,↓XH]
   refine aU fun bs bM bm ba q1 q2 q3 q4=>?_
   obtain ⟨n,rfl⟩:=Int.eq_ofNat_of_zero_le hi1
   rw [Ni] at h
   have hn:NodeH ((ba,.cells [U2 bm bs ba])::(bm,.cells [.mp (some bM)])::(bM,.lp (MemJ seed bM) [])::(bs,.cells [.str seed])::(b4,.cells (barr 16 []))::H) seed bm bM bs ba:=
    ⟨by rw [qg (Ne.symm q4.1),ji],by rw [qg (Ne.symm q4.2.1),qg (Ne.symm q3.1),ji],by rw [qg (Ne.symm q4.2.2.1),qg (Ne.symm q3.2.1),qg (Ne.symm q2.1),ji],ji⟩
   have hK:Kst ((ba,.cells [U2 bm bs ba])::(bm,.cells [.mp (some bM)])::(bM,.lp (MemJ seed bM) [])::(bs,.cells [.str seed])::(b4,.cells (barr 16 []))::H):=((((hg.push h4).push q1).push q2).push q3).push q4
   have hb4:ba≠b4∧bm≠b4∧bM≠b4∧bs≠b4:=⟨q4.2.2.2.1,q3.2.2.1,q2.2.1,q1.1⟩
   simp+contextual only [U2,↓XP,qp,XW1]
   have hp2:=(ua (ht:=n) (by omega)).2.1
   refine KU (by omega) n 0 hK hn (by omega) (by omega) ?_
   have nb:=jI seed n 0
   generalize jp seed n 0=v at nb h
   simp+contextual only [qm (Ne.symm hb4.1),qm (Ne.symm hb4.2.1),qm (Ne.symm hb4.2.2.1),qm (Ne.symm hb4.2.2.2),qg (Ne.symm hb4.1),qg (Ne.symm hb4.2.1),qg (Ne.symm hb4.2.2.1),qg (Ne.symm hb4.2.2.2),nb,qt,qI nb,j3,↓XP,qh,XW1,qb]
   exact h
  ·have hkf:WK i=false:=by simpa using hk
   rw [ca,if_neg (by rw [hks];exact hk)] at h
   simp+contextual only [hkf,↓pP,↓XP,qh,XW1,qb,↓XH]
   exact h
 ·have e1:(((seed.length:Nat):Int)=32)=False:=qy
  rw [ca,if_neg (fun c=>h1 (of_decide_eq_true c).1)] at h
  simp+contextual only [↓pP,e1,↓pP,↓XP,qh,XW1,qa,qb]
  exact fun _ _ _=>h
theorem xO (h:v8 seed i=true):ca seed i= .tup [.agg (jf (jp seed i.toNat 0)),.i 0]:=if_pos h
theorem tp (h:v8 seed i=false):ca seed i= .tup [.agg (barr 16 []),.i 1]:=if_neg (by rw [h];decide)
theorem cW (hg:Kst H) (h:R (lx seed i) H):ACall Tryz.prog 10 [.agg [.str seed,.i i]] H R:=by
 refine zV fun hf=>?_
 have hbig:=qk
 by_cases h4:(4:Int)<i
 ·have e4:((4:Int)<i)=True:=eq_true h4
  rw [QO (fun c=>by omega)] at h
  simp+contextual only [↓nf,e4,↓nf,↓XP,qh,XW1,qa,qb]
  exact fun _ _ _ _ _=>h
 ·have e4:((4:Int)<i)=False:=eq_false h4
  simp+contextual only [↓nf,e4,↓nf,↓XP,qh,XW1,qa]
  intro b1 h1 b2 h2 _ _
  obtain ⟨n21,f2⟩:=h2
  have hK:Kst ((b2,.cells (barr 16 []++ [.i 0]))::(b1,.cells [.str seed,.i i])::H):=(hg.push h1).push ⟨Ne.symm n21,f2⟩
  cases hk:v8 seed i with
  | true=>
   obtain ⟨hk1,hk2,hk3⟩:seed.length=32∧0<=i∧i<=6:=of_decide_eq_true hk
   rw [Ky hk (by omega)] at h
   refine We (seed:=seed) (i:=i) hK ?_
   rw [xO hk]
   have n2:=jI seed i.toNat 0
   generalize jp seed i.toNat 0=w at n2 h
   simp+contextual only [↓nf,↓XP,qh,XW1,qb]
   intro _ b4 h4'
   obtain ⟨n42,n41,f4⟩:=h4'
   simp+contextual only [qg n21,qg n42,qm n42,qg n41,n2,qt,qI n2,j3,JT n2,vf n2,aJ n2,ZL n2,U0,↓XP,qh,XW1,qb,qe]
   exact fun _=>h
  | false=>
   rw [QO (fun c=>by rw [hk] at c;exact absurd c.1 (by decide))] at h
   refine We (seed:=seed) (i:=i) hK ?_
   rw [tp hk]
   simp+contextual only [↓nf,↓XP,qh,XW1,qb]
   exact fun _ _ _=>⟨rfl,fun _=>h,fun c=>absurd c (by decide)⟩
end Go.Proofs.YtgopigkdcmhbbaaGreatDoor
end
noncomputable section
namespace Go.Proofs.YtgopigkdcmhbbaaGreatDoor
open Go.Xs
open Go Go.Aw
def ZC:=yy Tryz.f51
def x51_s8:XC:=(.seq (R [A 67 6] (.block 2 (.loop (ZC 30)))) (R [b (.slice 155 (t 3) .none .none .none) 40,n 40 2] (.gh .ret)))
def x51_s9:XC:=(R [A 0 4] (.seq (R [J 0 7] (.block 0 (.loop (ZC 11)))) x51_s8))
def x51:XC:=(R [B 33 0 1,Z 2] (R [a (.alloc 155) 3] x51_s9))
def V51:=PLift.up (aI (aI (aI (@unf (ZC 23) (r [u,u,u,u,u,v,u]) rfl) (@unf (ZC 21) (R [u,u,u,u,u,u,u,u,u,u,u,v,u,u] (ZC 23)) rfl)) (aI (@unf (ZC 17) (X (O (R [v,u] (ZC 21))) (r [u,u])) rfl) (aI (@unf (ZC 11) (R [u] (X I (ZC 17))) rfl) (@unf (ZC 40) (r [u,v,u]) rfl)))) (aI (aI (@unf (ZC 41) (r [u,v,u]) rfl) (@unf (ZC 36) (X (O (R [u,u,v,u,u] (ZC 40))) (ZC 41)) rfl)) (aI (@unf (ZC 30) (X (R [u,u] I) (ZC 36)) rfl) (aI (@unf _ _ x51_s8.eq_1) (@unf _ _ x51_s9.eq_1)))))
theorem B4:type_of% V51.down:=V51.down
theorem b51:Bt 51 41 x51 [(.tmp 2)]:=bt Tryz.func51 rfl
def Fa:=yy Tryz.f52
def V52:=PLift.up (aI (@unf (Fa 2) (X (G [u,u,u,u,u,u,u,v,u]) .ret) rfl) (@unf (Fa 0) (R [u,u] (Fa 2)) rfl))
theorem U52:type_of% V52.down:=V52.down
theorem b52:Bt 52 15 (Fa 0) [(.cell 6 33)]:=bt Tryz.func52 rfl
def Ff:=yy Tryz.f23
def V23:=PLift.up (aI (@unf (Ff 2) (F [u,u,u,u,u,u,u,v,u]) rfl) (@unf (Ff 0) (R [u,u] (Ff 2)) rfl))
theorem U23:type_of% V23.down:=V23.down
theorem b23:Bt 23 15 (Ff 0) [(.cell 6 33)]:=bt Tryz.func23 rfl
def YB:=yy Tryz.f69
def V69:=PLift.up (aI (aI (aI (@unf (YB 37) (r [u,u,u,u,u,u,v,u]) rfl) (@unf (YB 38) (r [u,v,u]) rfl)) (aI (@unf (YB 33) (X (O (R [x,u,u,u,u,u,v,u] (YB 37))) (YB 38)) rfl) (aI (@unf (YB 27) (X (R [u,u] I) (YB 33)) rfl) (@unf (YB 21) (R [u,u,u,u,u,u,u,u,u,u,v,u] (R [u] (U (YB 27)))) rfl)))) (aI (aI (@unf (YB 39) (r [u,v,u]) rfl) (aI (@unf (YB 17) (X (O (R [u,u,u,v,u] (YB 21))) (YB 39)) rfl) (@unf (YB 11) (X (R [u,u] I) (YB 17)) rfl))) (aI (@unf (YB 40) (F [x,u,u,u,u,u,u,u,u,u,u,u,v,u]) rfl) (aI (@unf (YB 4) (R [u] (X (R [u] (U (YB 11))) (YB 40))) rfl) (@unf (YB 0) (R [u,u] (R [u] (YB 4))) rfl)))))
theorem pT:type_of% V69.down:=V69.down
theorem b69:Bt 69 59 (YB 0) [(.tmp 2)]:=bt Tryz.func69 rfl
def JW:=yy Tryz.f27
def x27_s11:XC:=(R [m 0 39,K1 41 39 9 40,n 40 10] (R [a (.call ⟨(.builtin .imag),#[],#[114]⟩) 11] (JW 27)))
def x27_s12:XC:=(.seq (.block 0 (.seq (JW 5) (C 17 (R [S 8,A 1 9] .ret) (JW 10)))) x27_s11)
def x27:XC:=(R [S 8,A 0 9] x27_s12)
def V27r:=PLift.up (aI (@unf (JW 5) (r [u,u,u,u,z 21,z 21,z 21,v,u]) rfl) trivial)
theorem uP:type_of% V27r.down:=V27r.down
def V27:=PLift.up (aI (aI (aI (@unf (JW 16) (R [u,u,v,u] (T (F [u,u]))) rfl) (aI (@unf (JW 10) (R [u,u,u,z 29,z 29,z 29,z 29,v,u] (V (F [u,u]) (JW 16))) rfl) (@unf (JW 44) (R [u,u,u,u,u,u,u,v,u,u] (r [u,u])) rfl))) (aI (@unf (JW 40) (X (O (R [v,u,v,u,u] (JW 44))) (r [u,u])) rfl) (aI (@unf (JW 34) (R [u] (X I (JW 40))) rfl) (@unf (JW 63) (R [u,u,u,u,u,u,v,u,u] (r [u,u])) rfl)))) (aI (aI (@unf (JW 59) (X (O (R [v,u] (JW 63))) (r [u,u])) rfl) (aI (@unf (JW 53) (R [u] (X I (JW 59))) rfl) (@unf (JW 67) (F [v,u,u]) rfl))) (aI (aI (@unf (JW 29) (X (R [u,u,u,u,u,u,u,u,u] (U (JW 34))) (X (R [u,u] (U (JW 53))) (JW 67))) rfl) (@unf (JW 27) (R [u,u,u] (JW 29)) rfl)) (aI (@unf _ _ x27_s11.eq_1) (@unf _ _ x27_s12.eq_1)))))
theorem mz:type_of% V27.down:=V27.down
theorem b27:Bt 27 83 x27 [(.tmp 8),(.tmp 9)]:=bt Tryz.func27 rfl
def uT:=yy Tryz.f33
def V33:=PLift.up (aI (aI (aI (aI (@unf (uT 48) (r [u,v,u]) rfl) (@unf (uT 45) (X (O (G [u,u,u,u,u,u,u,u,u,u,u,u,u,v,u])) (uT 48)) rfl)) (aI (@unf (uT 39) (X (R [u,u] I) (uT 45)) rfl) (aI (@unf (uT 69) (T (r [u,v,u])) rfl) (@unf (uT 74) (r [u,v,u]) rfl)))) (aI (aI (@unf (uT 72) (R [u,u,u,u,u,u,u,u,u,v,u] (uT 74)) rfl) (@unf (uT 66) (X (R [u,u,u] (uT 69)) (uT 72)) rfl)) (aI (@unf (uT 75) (r [u,v,u]) rfl) (aI (@unf (uT 62) (X (O (R [u,v,u] (uT 66))) (uT 75)) rfl) (@unf (uT 56) (X (R [u,u,u] I) (uT 62)) rfl))))) (aI (aI (aI (@unf (uT 51) (X (R [u] (U (uT 56))) (F [v,u,u])) rfl) (@unf (uT 34) (X (R [u] (U (uT 39))) (R [v,u] (uT 51))) rfl)) (aI (@unf (uT 32) (R [u,u,v,u] (uT 34)) rfl) (aI (@unf (uT 30) (R [u,u,u,u,u,u,u,u,u,v,u] (uT 32)) rfl) (@unf (uT 28) (R [u,u,v,u] (uT 30)) rfl)))) (aI (aI (@unf (uT 20) (X (R [u,u,u] (T (F [u,u]))) (uT 28)) rfl) (@unf (uT 12) (X (R [u,u,u,z 25,z 25,z 25,z 25,u] (T (F [u,u]))) (uT 20)) rfl)) (aI (@unf (uT 4) (X (R [u,u] (T (F [u,u]))) (uT 12)) rfl) (aI (@unf (uT 2) (R [u,u,v,u] (uT 4)) rfl) (@unf (uT 0) (R [u,u] (uT 2)) rfl))))))
theorem bL:type_of% V33.down:=V33.down
theorem b33:Bt 33 94 (uT 0) [(.tmp 8),(.tmp 9)]:=bt Tryz.func33 rfl
end Go.Proofs.YtgopigkdcmhbbaaGreatDoor
end
noncomputable section
namespace Go.Proofs.YtgopigkdcmhbbaaGreatDoor
open Go.Xs
open Go Go.Aw
def QF:=yy Tryz.f12
def x12_s7:XC:=(.seq (.gh (.reg [L 26 3 80,w 26 4 80,A 0 5])) .ret)
def x12_s8:XC:=(.seq (.seq (QF 48) (.block 0 (.loop (QF 51)))) x12_s7)
def x12_s9:XC:=(.seq (QF 45) x12_s8)
def x12_s10:XC:=(.seq (QF 43) x12_s9)
def x12_s11:XC:=(.seq (R [m 10 47,q .neq 36 47 0 48] (QF 35)) (R [M 9 51,f 26 3 5 52,w 9 52 51] x12_s10))
def x12_s12:XC:=(.seq (QF 31) x12_s11)
def x12_s13:XC:=(.seq (.seq (QF 24) (QF 25)) x12_s12)
def x12_s14:XC:=(.seq (.seq (QF 14) (R [m 8 23,q .neq 36 23 0 24] (QF 17))) x12_s13)
def x12_s15:XC:=(.seq (R [l 26 3 12,K1 22 12 26 13,n 13 6] (R [m 6 14,q .neq 36 14 0 15] (QF 7))) x12_s14)
def x12:XC:=(.seq (QF 1) x12_s15)
def V12r:=PLift.up (aI (aI (@unf (QF 48) (r [u,u,u,u]) rfl) (aI (@unf (QF 45) (r [u,u,v,u,u]) rfl) (@unf (QF 43) (r [u,u,v,u,u]) rfl))) (aI (aI (@unf (QF 31) (G [u,u,u,u,u,u,u,u,u,u,u,v,v,u,u]) rfl) (@unf (QF 24) (G [u,u,u,u,u,u]) rfl)) (aI (@unf (QF 14) (r [u,u,u,v,v,u,u,u]) rfl) (@unf (QF 1) (r [u,u,u,u]) rfl))))
theorem zZ:type_of% V12r.down:=V12r.down
def V12:=PLift.up (aI (aI (aI (aI (@unf (QF 7) (T (F [v,v,u,u])) rfl) (@unf (QF 17) (T (F [v,v,u,u])) rfl)) (aI (@unf (QF 25) (T (F [v,u,u])) rfl) (@unf (QF 35) (T (F [v,v,u,u])) rfl))) (aI (aI (@unf (QF 61) (G [u,u,u,u,u,u,u,u,u,v,u,u,u]) rfl) (@unf (QF 57) (X (O (R [v,u] (QF 61))) (r [u,u])) rfl)) (aI (@unf (QF 51) (R [u] (X I (QF 57))) rfl) (@unf _ _ x12_s7.eq_1)))) (aI (aI (aI (@unf _ _ x12_s8.eq_1) (@unf _ _ x12_s9.eq_1)) (aI (@unf _ _ x12_s10.eq_1) (@unf _ _ x12_s11.eq_1))) (aI (aI (@unf _ _ x12_s12.eq_1) (@unf _ _ x12_s13.eq_1)) (aI (@unf _ _ x12_s14.eq_1) (@unf _ _ x12_s15.eq_1)))))
theorem cv:type_of% V12.down:=V12.down
theorem b12:Bt 12 81 x12 [(.cell 4 26),(.tmp 5)]:=bt Tryz.func12 rfl
def YE:=yy Tryz.f13
def V13:=PLift.up (aI (aI (aI (@unf (YE 7) (T (F [v,v,u,u])) rfl) (@unf (YE 17) (T (F [v,v,u,u])) rfl)) (aI (@unf (YE 25) (T (F [v,u,u])) rfl) (aI (@unf (YE 35) (T (F [v,v,u,u])) rfl) (@unf (YE 42) (F [v,u,u]) rfl)))) (aI (aI (@unf (YE 32) (X (R [u,u] (YE 35)) (R [v,u,u] (YE 42))) rfl) (aI (@unf (YE 30) (X (G [u,u,u,u,u,u,u,u,u,v,v,u,u]) (YE 32)) rfl) (@unf (YE 22) (X (X (G [u,u,u,u,u]) (YE 25)) (YE 30)) rfl))) (aI (@unf (YE 12) (R [u,u,u,u,v,v,u,u,u] (X (R [u,u] (YE 17)) (YE 22))) rfl) (aI (@unf (YE 2) (R [u,v,u] (X (R [u,u] (YE 7)) (YE 12))) rfl) (@unf (YE 0) (R [u,u,u] (YE 2)) rfl)))))
theorem ny:type_of% V13.down:=V13.down
theorem dk:Bt 13 53 (YE 0) [(.cell 6 26),(.tmp 7)]:=bt Tryz.func13 rfl
def x30v_s0:XC:=(R [c (.buildSlice 24 0 #[]) 5,m 0 6,b (.call ⟨(.builtin .append),#[t 5,t 6],#[24,24,0]⟩) 7,n 7 2] .ret)
def x30v_s1:XC:=(.seq (R [m 0 3,a (.binOp .eql 24 (t 3) (.const (.slice .none 0 0)) 24) 4] (C 4 (R [Z 2] .ret) .skip)) x30v_s0)
def V30v:=PLift.up (aI (@unf _ _ x30v_s0.eq_1) (@unf _ _ x30v_s1.eq_1))
theorem M9:type_of% V30v.down:=V30v.down
def Bw:XC:=(R [Z 2] x30v_s1)
theorem Iy {args:List D} {H:AH} {R:D->AH->Prop} (h:facts args->xcode Tryz.prog Bw (args++List.replicate (8 - args.length) (.tup [])) H (Um Tryz.prog [(.tmp 2)] R)):ACall Tryz.prog 30 args H R:=
 yV hm Tryz.func30 rfl (by kernel_rfl) (by kernel_rfl) (by kernel_rfl) (by kernel_rfl) (by kernel_rfl) (by kernel_rfl) h
def ga:=yy Tryz.f24
def V24:=PLift.up (aI (aI (aI (aI (@unf (ga 10) (R [u,u,v,u] (T (F [u,u]))) rfl) (@unf (ga 22) (T (F [v,u,u])) rfl)) (aI (@unf (ga 61) (G [u,u,u,u,u,v,u]) rfl) (@unf (ga 62) (G [u,u,u,u,u,v,u]) rfl))) (aI (aI (@unf (ga 58) (R [u,u,u,u,u] (V (ga 61) (ga 62))) rfl) (@unf (ga 54) (X (O (R [v,u] (ga 58))) (r [u,u])) rfl)) (aI (@unf (ga 48) (R [u] (X I (ga 54))) rfl) (@unf (ga 64) (X (R [u,u,u] (T (F [u,u]))) (F [v,u,u])) rfl)))) (aI (aI (aI (@unf (ga 41) (R [u,v,u,u] (X (R [u,u] (U (ga 48))) (ga 64))) rfl) (@unf (ga 39) (R [u,u,u,u,v,u,u] (ga 41)) rfl)) (aI (@unf (ga 37) (R [v,u,u] (ga 39)) rfl) (@unf (ga 29) (X (X (G [u,u,u,z 42,z 42,z 42,z 42,u,u,z 48,z 48,z 48,z 48,z 48,z 48,u]) (T (F [u,u]))) (ga 37)) rfl))) (aI (aI (@unf (ga 27) (R [u,u,u,v,u,u] (ga 29)) rfl) (@unf (ga 17) (R [u,u,u,u,v,v,v,u,u,u,u] (X (R [u,u] (ga 22)) (ga 27))) rfl)) (aI (@unf (ga 2) (X (O (R [u,u,v,u] (V (F [u,u]) (ga 10)))) (ga 17)) rfl) (@unf (ga 0) (R [u,u,u] (ga 2)) rfl)))))
theorem nO:type_of% V24.down:=V24.down
theorem b24:Bt 24 90 (ga 0) [(.tmp 8),(.tmp 9)]:=bt Tryz.func24 rfl
def u4:=yy Tryz.f39
def V39:=PLift.up (aI (aI (aI (aI (@unf (u4 23) (T (F [v,u,u])) rfl) (@unf (u4 56) (r [u,v,u]) rfl)) (aI (@unf (u4 53) (X (O (G [u,u,u,u,u,u,u,u,u,u,u,u,u,u,v,u])) (u4 56)) rfl) (aI (@unf (u4 47) (X (R [u,u] I) (u4 53)) rfl) (@unf (u4 81) (V (r [u,u,v,u]) (r [u,u,v,u])) rfl)))) (aI (aI (@unf (u4 84) (r [u,v,u]) rfl) (aI (@unf (u4 78) (X (R [u,u,u] (u4 81)) (u4 84)) rfl) (@unf (u4 85) (r [u,v,u]) rfl))) (aI (@unf (u4 74) (X (O (R [u,u,u,u,u,v,u,u] (u4 78))) (u4 85)) rfl) (aI (@unf (u4 68) (X (R [u,u,u] I) (u4 74)) rfl) (@unf (u4 86) (X (R [u,u,u] (T (F [u,u]))) (F [v,u,u])) rfl))))) (aI (aI (aI (@unf (u4 61) (R [v,u] (X (R [u] (U (u4 68))) (u4 86))) rfl) (@unf (u4 59) (R [u,u,u,v,u,u] (u4 61)) rfl)) (aI (@unf (u4 57) (R [u,u,v,u,u] (u4 59)) rfl) (aI (@unf (u4 40) (R [u] (X (R [u] (U (u4 47))) (u4 57))) rfl) (@unf (u4 38) (R [u,u,u,u,v,u] (u4 40)) rfl)))) (aI (aI (@unf (u4 30) (X (R [u,u,u,z 46,z 46,z 46,z 46,u,u,z 52,z 52,z 52,z 52,z 52,z 52,u] (T (F [u,u]))) (u4 38)) rfl) (aI (@unf (u4 28) (R [u,u,v,u] (u4 30)) rfl) (@unf (u4 18) (R [u,u,u,u,v,v,v,u,u,u] (X (R [u,u] (u4 23)) (u4 28))) rfl))) (aI (@unf (u4 10) (X (R [u,u,u] (T (F [u,u]))) (u4 18)) rfl) (aI (@unf (u4 2) (X (R [u,u,u,z 24,z 24,u] (T (F [u,u]))) (u4 10)) rfl) (@unf (u4 0) (R [u,u,u] (u4 2)) rfl))))))
theorem ZA:type_of% V39.down:=V39.down
theorem b39:Bt 39 118 (u4 0) [(.tmp 8),(.tmp 9)]:=bt Tryz.func39 rfl
def EF:=yy Tryz.f50
def V50:=PLift.up (aI (@unf (EF 2) (F [u,u,u,u,u,u,u,u,v,u]) rfl) (@unf (EF 0) (R [u] (EF 2)) rfl))
theorem U50:type_of% V50.down:=V50.down
theorem b50:Bt 50 13 (EF 0) [(.cell 3 33)]:=bt Tryz.func50 rfl
def EI:=yy Tryz.f54
def V54:=PLift.up (aI (@unf (EI 2) (X (G [u,u,u,u,u,u,u,u,u,v,u]) .ret) rfl) (@unf (EI 0) (R [u] (EI 2)) rfl))
theorem U54:type_of% V54.down:=V54.down
theorem b54:Bt 54 16 (EI 0) [(.cell 5 33)]:=bt Tryz.func54 rfl
end Go.Proofs.YtgopigkdcmhbbaaGreatDoor
end
section
namespace Go.Proofs.YtgopigkdcmhbbaaGreatDoor
open Go Go.Aw
variable {R:D->AH->Prop}
def JD (d:List UInt8) (i:Nat):Nat:=(d.getD (i / 4) 0).toNat / 4 ^ (3 - i % 4) % 4
def oK (d:List UInt8):Nat->Nat
 |0=>0
 |n+1=>oK d n+(3 - JD d n)
def vU (d:List UInt8) (s i:Nat):Nat:=if i<64 then JD d i else s / 4 ^ (67 - i) % 4
theorem ZX (d:List UInt8) (i:Nat):JD d i<=3:=Nat.le_of_lt_succ (Nat.mod_lt _ (by decide))
theorem Vv (d:List UInt8) (s i:Nat):vU d s i<=3:=by
 unfold vU
 split
 ·exact ZX d i
 ·exact Nat.le_of_lt_succ (Nat.mod_lt _ (by decide))
theorem WX (d:List UInt8):∀n,oK d n<=3*n
 |0=>Nr _
 |n+1=>by rw [oK];have:=WX d n;omega
def wK (f:Nat->Nat):List D:=(List.range 68).map fun k=>.i (f k:Int)
def vb (f:Nat->Nat):List (List D):=(List.range 68).map fun k=>[.i (f k:Int)]
theorem Zm (f:Nat->Nat):(wK f).length=68:=by simp [wK]
theorem yY (f:Nat->Nat):(vb f).length=68:=by simp [vb]
theorem nW (f:Nat->Nat):(vb f).flatten=wK f:=by
 unfold vb wK
 induction (List.range 68) with
 |nil=>rfl
 |cons x l ih=>simp only [List.map_cons,List.flatten_cons,ih];rfl
theorem UA (h1:g i=n) (h2:∀k,k<68->k≠i->g k=f k):(wK f).set i (.i (n:Int))=wK g:=by
 unfold wK
 apply List.ext_getElem?
 intro j
 rw [List.getElem?_set]
 simp only [List.length_map,List.length_range,Nf]
 by_cases hj:j<68
 ·rw [List.getElem?_range hj]
  by_cases e:i=j
  ·subst e;simp [hj,h1]
  ·simp [e,h2 j hj (fun q=>e q.symm)]
 ·rw [Nv (by simpa using hj)]
  split<;>simp_all
theorem arrD_get? (h:i<68):(wK f)[i]?=some (.i (f i:Int)):=by
 simp [wK,h]
theorem Q0 (h:i<68):(vb f).getD i []= [.i (f i:Int)]:=by
 simp [vb,List.getD,h]
theorem Z9 (h:∀k,k<68->f k=g k):wK f=wK g:=by
 unfold wK
 exact N1 fun k hk=>by rw [h k (List.mem_range.1 hk)]
theorem Dv:∀y∈vb f,y.length=1:=fun y hy=>by
 obtain ⟨k,_,rfl⟩:=List.mem_map.1 hy
 rfl
def de (d:List UInt8) (i k:Nat):Nat:=if k<i then JD d k else 0
def ii (d:List UInt8) (s i k:Nat):Nat:=if k<64 then JD d k else if i<k then s / 4 ^ (67 - k) % 4 else 0
theorem ei (d:List UInt8):(wK (de d i)).set i (.i (JD d i:Int))=wK (de d (i+1)):=
 UA (by simp [de]) fun k _ hk=>by
  unfold de
  by_cases h:k<i
  ·rw [if_pos h,if_pos (by omega)]
  ·rw [if_neg h,if_neg (by omega)]
theorem Ld (d:List UInt8) (s:Nat):wK (de d 64)=wK (ii d s 67):=Z9 fun k hk=>by
 unfold de ii
 by_cases h:k<64
 ·rw [if_pos h,if_pos h]
 ·rw [if_neg h,if_neg h,if_neg (by omega)]
theorem eg (d:List UInt8) (s:Nat) (h:64<=i+1):(wK (ii d s (i+1))).set (i+1) (.i ((s / 4 ^ (67 - (i+1)) % 4:Nat):Int))=wK (ii d s i):=
 UA (by unfold ii;rw [if_neg (by omega),if_pos (by omega)]) fun k _ hk=>by
  unfold ii
  by_cases h:k<64
  ·rw [if_pos h,if_pos h]
  ·rw [if_neg h,if_neg h]
   by_cases h2:i+1<k
   ·rw [if_pos h2,if_pos (by omega)]
   ·rw [if_neg h2,if_neg (by omega)]
theorem nI (d:List UInt8) (s:Nat):wK (ii d s 63)=wK (vU d s):=Z9 fun k hk=>by
 unfold ii vU
 by_cases h:k<64
 ·rw [if_pos h,if_pos h]
 ·rw [if_neg h,if_neg h,if_pos (by omega)]
theorem ez (x:UInt8) {i m:Nat} (hm:m=i % 4):(x.toNat:Int).fdiv (2 ^ min (6 - 2*(m:Int)).toNat 8)=((x.toNat / 4 ^ (3 - i % 4):Nat):Int):=by
 have h:m=0∨m=1∨m=2∨m=3:=by omega
 rw [<-hm]
 clear hm
 rcases h with rfl|rfl|rfl|rfl
 all_goals simp [Int.fdiv_eq_ediv_of_nonneg]
theorem Fz.hso0 (hF:F.getD s .any= .hso b 0 n):Fz F H (F.set s (.hsl b n)) H:=by
 intro K w t hs
 have hlt:s<F.length:=by
  rcases Nt s F.length with h'|h'
  ·exact h'
  ·simp [List.getD,Nv h'] at hF
 have hFs:F[s]?=some (.hso b 0 n):=by rw [<-hF];simp [List.getD,Nb hlt]
 refine ⟨K,.refl K w,hs.krel,hs.hrel,by simpa using hs.len,fun i d v hd hv'=>?_⟩
 rcases getElem?_set_some hd with ⟨rfl,rfl,_⟩|⟨hne,hd⟩
 ·obtain ⟨cap,rfl,h0,h1,h2,h3⟩:=RepV.hso_inv (show RepV K w (.hso b 0 n) v from hs.slot s _ v hFs hv')
  exact RepV.viewO (.hsl b n cap h1 h2 h3)
 ·exact hs.slot i d v hd hv'
theorem Fz.rowA (hF:F.getD s .any= .hso b 0 68) (hg:qn H b=some (.cells (wK f))):Fz F H (F.set s (.slc (vb f))) (qT H b):=by
 have hlt:s<F.length:=by
  rcases Nt s F.length with h'|h'
  ·exact h'
  ·simp [List.getD,Nv h'] at hF
 have h:=Fz.freeze (F:=F.set s (.hsl b 68)) (H:=H) (s:=s) (b:=b) (n:=68) (sz:=1) (cs:=wK f) (xs:=vb f) (rest:= []) (by simp [List.getD,hlt]) hg (by rw [nW,Ny]) (yY f) Dv (by omega) (fun x hx d hd=>by
  obtain ⟨k,_,rfl⟩:=List.mem_map.1 hx
  rw [List.mem_singleton.1 hd]
  rfl)
 rw [List.set_set] at h
 exact (Fz.hso0 hF).trans h
theorem Ua (hd:d.length=16) (h:R (.slc (vb (vU d (oK d 64)))) H):ACall Tryz.prog 51 [.agg (jf d)] H R:=by
 refine b51 fun hf=>?_
 have hbig:=qk
 simp+contextual only [x51,↓B4,↓XP,qh,XW1,qa]
 intro b1 h1 b3 h3
 obtain ⟨n31,f3⟩:=h3
 obtain ⟨t,ht⟩:∃t:Nat,t=64:=⟨_,rfl⟩
 have hh:R (.slc (vb (vU d (oK d t)))) H:=by rw [ht];exact h
 clear h
 refine XW.loopS hmm 41 (fun i:Nat=>[(1,.ptr b1 0),(3,.ptr b3 0),(4,.i (oK d i:Int)),(7,.i (i:Int))]) (fun i=>(b3,.cells (wK (de d i)))::(b1,.cells (jf d))::H) (fun i=>t - i) (fun i=>i<=t) 0 (Nat.zero_le _) ⟨rfl,rfl,rfl,rfl,rfl,trivial⟩ rfl ?_
 intro i z hi K hN hE hR
 dsimp only [fl,zz,qa,qb]
 have hsl:=WX d i
 have hss:oK d (i+1)=oK d i+(3 - JD d i):=rfl
 have hh2:i=t->R (.slc (vb (vU d (oK d i)))) H:=fun e=>by rw [e];exact hh
 by_cases hlt:i<t
 ·have hlt':((i:Int)<64)=True:=qo
  have g:=QN (l:=d) (i:=i / 4) (by omega)
  have hq:(i:Int).tdiv 4=((i / 4:Nat):Int):=by rw [Int.tdiv_eq_ediv_of_nonneg (by omega)];omega
  have hr:(i:Int).tmod 4=((i % 4:Nat):Int):=by rw [Int.tmod_eq_emod_of_nonneg (by omega)];omega
  have hw1:IntKind.i64.wrap ((i / 4:Nat):Int)=((i / 4:Nat):Int):=qi (by omega) (by omega)
  have hw2:IntKind.i64.wrap ((i % 4:Nat):Int)=((i % 4:Nat):Int):=qi (by omega) (by omega)
  have hw3:IntKind.i64.wrap (2*((i % 4:Nat):Int))=2*((i % 4:Nat):Int):=qi (by omega) (by omega)
  have hw4:IntKind.i64.wrap (6 - 2*((i % 4:Nat):Int))=6 - 2*((i % 4:Nat):Int):=qi (by omega) (by omega)
  have hi4:((i / 4:Nat):Int)<16:=by omega
  have h04:(0:Int)<=((i / 4:Nat):Int):=by omega
  have hx:((d.getD (i / 4) 0).toNat:Int).fdiv (2 ^ min (6 - 2*((i % 4:Nat):Int)).toNat IntKind.u8.bits)=(((d.getD (i / 4) 0).toNat / 4 ^ (3 - i % 4):Nat):Int):=ez _ rfl
  have hv:(d.getD (i / 4) 0).toNat / 4 ^ (3 - i % 4)<=255:=Nq (Nat.div_le_self _ _) (Nat.le_of_lt_succ (d.getD (i / 4) 0).toNat_lt)
  have hp:JD d i=(d.getD (i / 4) 0).toNat / 4 ^ (3 - i % 4) % 4:=rfl
  have hp3:=ZX d i
  have hst:=ei d (i:=i)
  have hgt:=arrD_get? (f:=de d (i+1)) (i:=i) (by omega)
  rw [show de d (i+1) i=JD d i by simp [de]] at hgt
  have hal:=Zm (de d i)
  have h68:((i:Int)<68)=True:=qo
  have h68':(i<68)=True:=qo
  have h6:(0<=6 - 2*((i % 4:Nat):Int))=True:=qo
  generalize (d.getD (i / 4) 0).toNat / 4 ^ (3 - i % 4)=v at hx hv hp
  have hw5:IntKind.i64.wrap (v:Int)=(v:Int):=qi (by omega) (by omega)
  have hm:(v:Int).tmod 4=(JD d i:Int):=by rw [Int.tmod_eq_emod_of_nonneg (by omega)];omega
  clear hp
  generalize JD d i=p at hst hgt hp3 hss hm
  have hw6:IntKind.i64.wrap (3 - (p:Int))=3 - (p:Int):=qi (by omega) (by omega)
  have hw7:IntKind.i64.wrap ((oK d i:Int)+(3 - (p:Int)))=(oK d (i+1):Int):=by rw [qi (by omega) (by omega)];omega
  have hw8:IntKind.i64.wrap (p:Int)=(p:Int):=qi (by omega) (by omega)
  simp+contextual only [Nat.mul_one,Nh,qg,n31,hlt',hq,hr,hw1,hw3,hw4,eq_true hi4,eq_true h04,Ni,g,bD,hx,hw5,hm,hst,hgt,hal,h68,h68',h6,hw6,hw7,↓B4,↓XP,qh,XW1]
  rw [qj (by omega)]
  exact ⟨by decide,fun _=>⟨by decide,by decide,fun _=>hN (i+1) _ _ (by omega) (by omega) ⟨rfl,rfl,rfl,rfl,rfl,trivial⟩ (qz rfl)⟩⟩
 ·have hi2:i=t:=by omega
  have hlt':((i:Int)<64)=False:=qy
  have h:=hh2 hi2
  have hd12:wK (de d i)=wK (ii d (oK d i) 67):=by rw [hi2,ht];exact Ld d _
  simp+contextual only [hlt',↓B4,↓XP,qp]
  apply hE
  rw [hd12]
  have hsl2:oK d i<=192:=by omega
  generalize oK d i=s at hsl2 h
  clear hE hN hR hss hsl hd12 hlt' hi2 hi hh hh2 hlt
  simp+contextual only [↓B4,↓XP,qp,XW1]
  refine XW.loopS hmm 41 (fun j:Nat=>[(1,.ptr b1 0),(3,.ptr b3 0),(4,.i ((s / 4 ^ j:Nat):Int)),(6,.i ((67:Int) - (j:Int)))]) (fun j=>(b3,.cells (wK (ii d s (67 - j))))::(b1,.cells (jf d))::H) (fun j=>4 - j) (fun j=>j<=4) 0 (Nat.zero_le _) ?_ rfl ?_
  ·rw [show s / 4 ^ 0=s by simp,show (67:Int) - ((0:Nat):Int)=67 by omega]
   exact ⟨rfl,rfl,rfl,rfl,rfl,trivial⟩
  intro j z hj K hN hE hR
  dsimp only [fl,zz,qa,qb]
  by_cases hlt:j<4
  ·have hlt':((64:Int)<=67 - (j:Int))=True:=qo
   have hst:=eg d s (i:=66 - j) (by omega)
   rw [show 66 - j+1=67 - j by omega,show 67 - (67 - j)=j by omega,show 66 - j=67 - (j+1) by omega] at hst
   have hal:=Zm (ii d s (67 - j))
   have htn:(67 - (j:Int)).toNat=67 - j:=by omega
   have hv:s / 4 ^ j<=192:=Nq (Nat.div_le_self _ _) hsl2
   have hvs:s / 4 ^ (j+1)=s / 4 ^ j / 4:=by rw [Nat.pow_succ,Nat.div_div_eq_div_mul]
   generalize s / 4 ^ j=v at hst hv hvs
   have hm:(v:Int).tmod 4=((v % 4:Nat):Int):=by rw [Int.tmod_eq_emod_of_nonneg (by omega)];omega
   have hq:(v:Int).tdiv 4=((s / 4 ^ (j+1):Nat):Int):=by rw [Int.tdiv_eq_ediv_of_nonneg (by omega),hvs];omega
   have hq2:IntKind.i64.wrap ((s / 4 ^ (j+1):Nat):Int)=((s / 4 ^ (j+1):Nat):Int):=qi (by omega) (by omega)
   have hw:IntKind.i64.wrap (67 - (j:Int) - 1)=67 - ((j+1:Nat):Int):=by rw [qi (by omega) (by omega)];omega
   simp+contextual only [Nat.mul_one,Nh,hlt',htn,hm,hq,hq2,hw,hst,hal,↓B4,↓XP,qh,XW1]
   exact ⟨by decide,by omega,by omega,by omega,by decide,hN (j+1) _ _ (by omega) (by omega) ⟨rfl,rfl,rfl,rfl,rfl,trivial⟩ (qz rfl)⟩
  ·have hlt':((64:Int)<=67 - (j:Int))=False:=qy
   simp+contextual only [hlt',↓B4,↓XP,qp]
   have hj4:j=4:=by omega
   apply hE
   rw [hj4,show 67 - 4=63 from rfl,nI]
   simp+contextual only [Nat.mul_one,Nat.sub_zero,Nh,↓JX,qh,XW1,qe,↓XH]
   refine kP (Fz.rowA (s:=2) (b:=b3) (f:=vU d s) rfl ji) ?_
   simp+contextual only [vY,↓XP,qp]
   exact h
def YV (d:List UInt8) (n:Nat):List (List D):=(List.range n).map fun k=>[.i (JD d k:Int)]
theorem bG (d:List UInt8) (n:Nat):YV d n++ [[.i (JD d n:Int)]]=YV d (n+1):=by simp [YV,List.range_succ]
theorem UH (d:List UInt8) (n:Nat):(YV d n).length=n:=by simp [YV]
theorem fa:∀y∈YV d n,y.length=1:=fun y hy=>by
 obtain ⟨k,_,rfl⟩:=List.mem_map.1 hy
 rfl
theorem fY (hs:s<=192):YV d 64++ [[.i ((s / 64:Nat):Int)],[.i ((s / 16 % 4:Nat):Int)],[.i ((s / 4 % 4:Nat):Int)],[.i ((s % 4:Nat):Int)]]=vb (vU d s):=by
 have h1:vb (vU d s)=(List.range 64).map (fun k=>[D.i (vU d s k:Int)])++ [64,65,66,67].map (fun k=>[D.i (vU d s k:Int)]):=by
  unfold vb
  rw [<-No]
  rfl
 have h2:(List.range 64).map (fun k=>[D.i (vU d s k:Int)])=YV d 64:=N1 fun k hk=>by rw [vU,if_pos (List.mem_range.1 hk)]
 have e:s / 64 % 4=s / 64:=Nat.mod_eq_of_lt (by omega)
 rw [h1,h2]
 simp [vU,e]
def Wt (d:List UInt8) (i:Nat):List (List D):=(List.range 4).map fun k=>[.i (JD d (4*i+k):Int)]
theorem eJ (d:List UInt8) (i:Nat):Wt d i= [[.i (((d.getD i 0).toNat / 64:Nat):Int)],[.i (((d.getD i 0).toNat / 16 % 4:Nat):Int)],[.i (((d.getD i 0).toNat / 4 % 4:Nat):Int)],[.i (((d.getD i 0).toNat % 4:Nat):Int)]]:=by
 have e0:JD d (4*i+0)=(d.getD i 0).toNat / 64:=by
  have hv:=(d.getD i 0).toNat_lt
  rw [JD,show (4*i+0) / 4=i by omega,show (4*i+0) % 4=0 by omega]
  exact Nat.mod_eq_of_lt (by omega)
 have e1:JD d (4*i+1)=(d.getD i 0).toNat / 16 % 4:=by rw [JD,show (4*i+1) / 4=i by omega,show (4*i+1) % 4=1 by omega]
 have e2:JD d (4*i+2)=(d.getD i 0).toNat / 4 % 4:=by rw [JD,show (4*i+2) / 4=i by omega,show (4*i+2) % 4=2 by omega]
 have e3:JD d (4*i+3)=(d.getD i 0).toNat % 4:=by rw [JD,show (4*i+3) / 4=i by omega,show (4*i+3) % 4=3 by omega,Nat.sub_self,Nat.pow_zero,Nat.div_one]
 rw [<-e0,<-e1,<-e2,<-e3]
 rfl
theorem cR (d:List UInt8) (h:k<4):(Wt d i).getD k []= [.i (JD d (4*i+k):Int)]:=by
 simp [Wt,List.getD,h]
theorem ci (d:List UInt8) (i:Nat):(Wt d i).length=4:=rfl
theorem Wy (hd:d.length=16) (h:R (.own (vb (vU d (oK d 64)))) H):ACall Tryz.prog 69 [.agg (jf d)] H R:=by
 refine b69 fun hf=>?_
 have hbig:=qk
 simp+contextual only [↓pT,↓pT,↓XP,qp,qa]
 intro b1 h1
 obtain ⟨t,ht⟩:∃t:Nat,t=16:=⟨_,rfl⟩
 have hh:R (.own (vb (vU d (oK d (4*t))))) H:=by rw [ht];exact h
 clear h
 refine XW.loopS hmm 59 (fun i:Nat=>[(1,.ptr b1 0),(3,.own (YV d (4*i))),(4,.i (oK d (4*i):Int)),(5,.i (i:Int))]) (fun _=>(b1,.cells (jf d))::H) (fun i=>t - i) (fun i=>i<=t) 0 (Nat.zero_le _) ⟨rfl,rfl,rfl,rfl,rfl,trivial⟩ rfl ?_
 intro i z hi K hN hE hR
 dsimp only [fl,zz,qa,qb]
 have hh2:i=t->R (.own (vb (vU d (oK d (4*i))))) H:=fun e=>by rw [e];exact hh
 have hsl:=WX d (4*i)
 by_cases hlt:i<t
 ·have hlt':((i:Int)<16)=True:=qo
  have hlt2:(i<16)=True:=qo
  have hi0:((0:Int)<=(i:Int))=True:=qo
  have g:=QN (l:=d) (i:=i) (by omega)
  have hv:(d.getD i 0).toNat<=255:=Nat.le_of_lt_succ (d.getD i 0).toNat_lt
  have h4:Wt d i= [[.i (((d.getD i 0).toNat / 64:Nat):Int)],[.i (((d.getD i 0).toNat / 16 % 4:Nat):Int)],[.i (((d.getD i 0).toNat / 4 % 4:Nat):Int)],[.i (((d.getD i 0).toNat % 4:Nat):Int)]]:=eJ d i
  simp only [bD] at g
  generalize (d.getD i 0).toNat=v at g hv h4
  have w1:IntKind.i64.wrap (v:Int)=(v:Int):=qi (by omega) (by omega)
  have q1:(v:Int).tdiv 64=((v / 64:Nat):Int):=by rw [Int.tdiv_eq_ediv_of_nonneg (by omega)];omega
  have q2:(v:Int).tdiv 16=((v / 16:Nat):Int):=by rw [Int.tdiv_eq_ediv_of_nonneg (by omega)];omega
  have q3:(v:Int).tdiv 4=((v / 4:Nat):Int):=by rw [Int.tdiv_eq_ediv_of_nonneg (by omega)];omega
  have r2:((v / 16:Nat):Int).tmod 4=((v / 16 % 4:Nat):Int):=by rw [Int.tmod_eq_emod_of_nonneg (by omega)];omega
  have r3:((v / 4:Nat):Int).tmod 4=((v / 4 % 4:Nat):Int):=by rw [Int.tmod_eq_emod_of_nonneg (by omega)];omega
  have r4:(v:Int).tmod 4=((v % 4:Nat):Int):=by rw [Int.tmod_eq_emod_of_nonneg (by omega)];omega
  have w2:IntKind.i64.wrap ((v / 64:Nat):Int)=((v / 64:Nat):Int):=qi (by omega) (by omega)
  have w3:IntKind.i64.wrap ((v / 16:Nat):Int)=((v / 16:Nat):Int):=qi (by omega) (by omega)
  have w4:IntKind.i64.wrap ((v / 4:Nat):Int)=((v / 4:Nat):Int):=qi (by omega) (by omega)
  simp+contextual only [Nat.mul_one,Nh,hlt',hi0,g,Ni,w1,q1,q2,q3,r2,r3,r4,w2,w3,w4,<-h4,↓pT,↓XP,qh,XW1,qe]
  refine fun _=>⟨by decide,by decide,by decide,by decide,by decide,by decide,?_⟩
  refine XW.loopS hmm 59 (fun k:Nat=>[(1,.ptr b1 0),(3,.own (YV d (4*i+k))),(4,.i (oK d (4*i+k):Int)),(5,.i (i:Int)),(7,.own (Wt d i)),(8,.i (k:Int))]) (fun _=>(b1,.cells (jf d))::H) (fun k=>4 - k) (fun k=>k<=4) 0 (Nat.zero_le _) ⟨rfl,rfl,rfl,rfl,rfl,rfl,rfl,trivial⟩ rfl ?_
  intro k z hk K hN' hE' hR'
  dsimp only [fl,zz,qa,qb]
  by_cases hlt2:k<4
  ·have hlk:((k:Int)<4)=True:=qo
   have hlk0:((0:Int)<=(k:Int))=True:=qo
   have hlk1:(k<4)=True:=qo
   have gk:=cR d (i:=i) hlt2
   have hfl:=ci d i
   have hst:=bG d (4*i+k)
   have hp3:=ZX d (4*i+k)
   have hss:oK d (4*i+(k+1))=oK d (4*i+k)+(3 - JD d (4*i+k)):=rfl
   have hs4:=WX d (4*i+k)
   rw [show 4*i+k+1=4*i+(k+1) by omega] at hst
   generalize JD d (4*i+k)=p at gk hst hp3 hss
   have hw6:IntKind.i64.wrap ((oK d (4*i+k):Int)+3)=(oK d (4*i+k):Int)+3:=qi (by omega) (by omega)
   have hw7:IntKind.i64.wrap ((oK d (4*i+k):Int)+3 - (p:Int))=(oK d (4*i+(k+1)):Int):=by rw [qi (by omega) (by omega)];omega
   simp+contextual only [UH,Nat.mul_one,Nh,hlk,hlk0,gk,hfl,hst,hw6,hw7,Ni,↓pT,↓XP,qh,XW1,qe]
   rw [qj (by omega)]
   exact fun _=>⟨fa,by omega,hN' (k+1) _ _ (by omega) (by omega) ⟨rfl,rfl,rfl,rfl,rfl,rfl,rfl,trivial⟩ (qz rfl)⟩
  ·have hk4:k=4:=by omega
   have hlk:((k:Int)<4)=False:=qy
   simp+contextual only [hlk,↓pT,↓XP,qp]
   apply hE'
   rw [hk4,show 4*i+4=4*(i+1) by omega]
   simp+contextual only [Nh,↓pT,↓XP,qp,XW1,qf]
   rw [qj (by omega)]
   exact hN (i+1) _ _ (by omega) (by omega) ⟨rfl,rfl,rfl,rfl,rfl,trivial⟩ (qz rfl)
 ·have hi2:i=t:=by omega
  have hlt':((i:Int)<16)=False:=qy
  have h:=hh2 hi2
  have h64:4*i=64:=by omega
  rw [h64] at h hsl
  simp+contextual only [hlt',↓pT,↓XP,qp]
  apply hE
  rw [h64]
  have hre:=fY (d:=d) (s:=oK d 64) (by omega)
  generalize oK d 64=s at h hsl hre
  have q1:(s:Int).tdiv 64=((s / 64:Nat):Int):=by rw [Int.tdiv_eq_ediv_of_nonneg (by omega)];omega
  have q2:(s:Int).tdiv 16=((s / 16:Nat):Int):=by rw [Int.tdiv_eq_ediv_of_nonneg (by omega)];omega
  have q3:(s:Int).tdiv 4=((s / 4:Nat):Int):=by rw [Int.tdiv_eq_ediv_of_nonneg (by omega)];omega
  have r2:((s / 16:Nat):Int).tmod 4=((s / 16 % 4:Nat):Int):=by rw [Int.tmod_eq_emod_of_nonneg (by omega)];omega
  have r3:((s / 4:Nat):Int).tmod 4=((s / 4 % 4:Nat):Int):=by rw [Int.tmod_eq_emod_of_nonneg (by omega)];omega
  have r4:(s:Int).tmod 4=((s % 4:Nat):Int):=by rw [Int.tmod_eq_emod_of_nonneg (by omega)];omega
  have w2:IntKind.i64.wrap ((s / 64:Nat):Int)=((s / 64:Nat):Int):=qi (by omega) (by omega)
  have w3:IntKind.i64.wrap ((s / 16:Nat):Int)=((s / 16:Nat):Int):=qi (by omega) (by omega)
  have w4:IntKind.i64.wrap ((s / 4:Nat):Int)=((s / 4:Nat):Int):=qi (by omega) (by omega)
  simp+contextual only [UH,Nat.mul_one,q1,q2,q3,r2,r3,r4,w2,w3,w4,hre,↓pT,↓XP,qh,XW1,qb,qc,qe]
  exact ⟨by decide,by decide,by decide,by decide,by decide,by decide,fa,h⟩
def uL (pub:List UInt8) (i:Int) (m:List UInt8):List UInt8:=jE 3 [pub,qr i,m]
theorem Qn (pub:List UInt8) (i:Int) (m:List UInt8):(uL pub i m).length=16:=jO _ _
theorem iI (hi:wP .i64 i) (hp:pub.length=16) (hm:m.length<=100000):∀x∈ [pub,qr i,m],x.length<=100000000:=fun x hx=>by
 simp only [Nu,N2,or_false] at hx
 have:=kL hi
 rcases hx with rfl|rfl|rfl<;>omega
theorem pZ (hg:Kst H) (hp:pub.length=16) (hm:m.length<=100000) (h:R (.agg (jf (uL pub i m))) H):ACall Tryz.prog 52 [.agg (jf pub),.i i,.str m] H R:=by
 refine b52 fun hf=>?_
 have hbig:=qk
 simp+contextual only [↓U52,Nat.mul_one,Nat.sub_zero,qt,↓U52.1,↓JX,qh,XW1,qa,qb,qe,↓XH]
 intro b3 h3 b6 h6
 obtain ⟨n63,f6⟩:=h6
 simp+contextual only [qt,hp,qI hp,gB,qp]
 refine ⟨zb _,fun _=>⟨_,fun H1 hs=>gQ fun _=>⟨rfl,rfl⟩,?_⟩⟩
 simp+contextual only [Nat.mul_one,unb,↓XP,qh,XW1,qe]
 have hi:wP .i64 i:=hf.2.1
 have hK:Kst ((b6,.cells (barr 16 []))::(b3,.cells (jf pub))::H):=(hg.push h3).push ⟨Ne.symm n63,f6⟩
 refine fun _=>⟨isb _,⟨_,fun H1 hs=>Ut (c:=3) (l:= [pub,qr i,m]) (hK.sub hs) (by decide) (by simp) (iI hi hp hm) ⟨rfl,rfl⟩,?_⟩⟩
 rw [show uL pub i m=jE 3 [pub,qr i,m] from rfl] at h
 have hl:=jO 3 [pub,qr i,m]
 generalize jE 3 [pub,qr i,m]=s at hl h
 simp+contextual only [qt,hl,qI hl,j3,↓XP,qh,XW1,qb]
 exact h
theorem fq (hg:Kst0 H) (hp:pub.length=16) (hm:m.length<=100000) (h:R (.agg (jf (uL pub i m))) H):ACall Tryz.prog 23 [.agg (jf pub),.i i,.str m] H R:=by
 refine b23 fun hf=>?_
 have hbig:=qk
 simp+contextual only [↓U23,qt,↓U23.1,↓XP,qh,XW1,qa,qb]
 intro b3 h3 b6 h6
 obtain ⟨n63,f6⟩:=h6
 simp+contextual only [hp,qI hp,j3,qp]
 have hi:wP .i64 i:=hf.2.1
 have hK:Kst0 ((b6,.cells (barr 16 []))::(b3,.cells (jf pub))::H):=(hg.push h3).push ⟨Ne.symm n63,f6⟩
 refine un hp ?_
 simp+contextual only [hp,↓XP,qp]
 refine fun _=>oa fun _=>?_
 simp+contextual only [Nat.mul_one,unb,↓XP,qh,XW1,qe]
 refine fun _=>⟨isb _,KQ (c:=3) (l:= [pub,qr i,m]) hK (by decide) (by simp) (iI hi hp hm) ?_⟩
 rw [show uL pub i m=jE 3 [pub,qr i,m] from rfl] at h
 have hl:=jO 3 [pub,qr i,m]
 generalize jE 3 [pub,qr i,m]=s at hl h
 simp+contextual only [qt,hl,qI hl,j3,↓XP,qh,XW1,qb]
 exact h
theorem lw (hv:v≠ []) (K:Nat->BK) (w:World) (x:Value) (hh:HRel K w (qT H b)) (hr:RepV K w (.slc (v.map ql)) x):
  Src Tryz.prog w K 1 (v.map ql) x∧∃ad c,x= .slice (some ad) v.length c∧∀j y,v[j]?=some y->w.cell? (ad.add j)=some (.int .u8 y.toNat):=by
 refine ⟨o0 hr (Vn v) (by omega),?_⟩
 generalize hl:v.map ql=xs at hr
 have hlen:xs.length=v.length:=by rw [<-hl];simp
 cases hr with
 |slcnil a=>exact (hv (by simpa using hl)).elim
 | slc _ b' off cap sz f hb hc hm hs hvis hcell hone hrep=>
  refine ⟨⟨b',off,none⟩,cap,by rw [hlen],fun j y hj=>?_⟩
  have hx:xs[j]?=some [D.int .u8 (y.toNat:Int)]:=by rw [<-hl,Nf,hj];rfl
  have hsz:sz=1:=(hs j _ hx).symm
  have h1:=hcell j _ hx 0 _ rfl
  have h2:=hrep j _ hx 0 _ rfl
  obtain ⟨h3,_⟩:=h2.int_inv
  rw [h3] at h1
  rw [hsz,Nat.mul_one,Nat.add_zero] at h1
  by_cases hj0:j=0
  ·subst hj0;simpa [Addr.add] using h1
  ·simpa [Addr.add,hj0] using h1
def Jd (seed:List UInt8) (i:Int) (d:List UInt8) (s c:Nat):List UInt8:=wi i c (yh seed i c) 0 (vU d s c)
theorem VR (seed:List UInt8) (i:Int) (d:List UInt8) (s c:Nat):(Jd seed i d s c).length=16:=yG (yO _ _ _) _
def oM (i l:Nat):Nat:=(i / 2 ^ l) ^^^ 1
def kz (seed:List UInt8) (i l:Nat):List UInt8:=jp seed l (oM i l)
theorem QK (seed:List UInt8) (i l:Nat):(kz seed i l).length=16:=jI _ _ _
def JB (seed:List UInt8) (ht i:Nat) (m:List UInt8):List UInt8:=
 let d:=uL (jp seed ht 0) i m
 qr i++jm (Jd seed i d (oK d 64)) 68++jm (kz seed i) ht
theorem ex (hl:l<ht) (hi:i<2 ^ ht):oM i l<2 ^ (ht - l):=by
 have h1:i / 2 ^ l<2 ^ (ht - l):=by
  rw [Nat.div_lt_iff_lt_mul (Nat.two_pow_pos l),<-Nat.pow_add,show ht - l+l=ht by omega]
  exact hi
 have h2:1<2 ^ (ht - l):=Nat.one_lt_two_pow (by omega)
 exact Nat.xor_lt_two_pow h1 h2
theorem H9:∀v:Fin 64,bits .xor .i64 ((v.val:Nat):Int) 1=((v.val ^^^ 1:Nat):Int):=by decide
theorem lB {i l ht:Nat} (hh:ht<=6) (hl:l<ht) (hi:i<2 ^ ht) (hp:2 ^ ht<=64):bits .xor .i64 ((i:Int).fdiv (2 ^ min l IntKind.i64.bits)) 1=(oM i l:Int):=by
 have h1:min l IntKind.i64.bits=l:=Nat.min_eq_left (show l<=64 by omega)
 have h2:(i:Int).fdiv (2 ^ l)=((i / 2 ^ l:Nat):Int):=by
  rw [show ((2:Int) ^ l)=((2 ^ l:Nat):Int) by simp,Int.fdiv_eq_ediv_of_nonneg _ (Int.natCast_nonneg _)]
  exact (Int.natCast_ediv _ _).symm
 rw [h1,h2]
 exact H9 ⟨i / 2 ^ l,Nat.lt_of_le_of_lt (Nat.div_le_self _ _) (by omega)⟩
theorem na {seed m:List UInt8} {ht i:Nat} {H:AH} (hg:Kst H) (hs:seed.length=32) (hh:ht<=6) (hi:i<2 ^ ht) (hm:m.length<=100000)
  (h:R (.tup [.str (JB seed ht i m),.i 0]) H):ACall Tryz.prog 27 [.str seed,.i (ht:Int),.i (i:Int),.str m] H R:=by
 refine b27 fun hf=>?_
 have hbig:=qk
 obtain ⟨hp1,hp2,hp3⟩:=ua hh
 have e1:decide (((seed.length:Nat):Int)=32)=true:=decide_eq_true (by omega)
 simp only [x27,e1,Bool.not_true,↓mz,↓uP,↓XP,qh,qa,qb]
 refine fun _=>Yc ?_
 have hk:WK (ht:Int)=true:=by
  unfold WK
  rw [decide_eq_true (by omega),decide_eq_true (by omega)]
  rfl
 have l1:((i:Int)<0)=False:=qy
 have l2:(((2 ^ ht:Nat):Int)<=(i:Int))=False:=qy
 have l3:((1048576:Int)<(m.length:Int))=False:=qy
 have l4:((0:Int)<=(ht:Int))=True:=qo
 simp+contextual only [hk,hp1,l1,l2,l3,l4,Ni,↓mz,↓uP,↓XP,qh,XW1,↓XH]
 intros
 refine aU fun bs bM bm ba q1 q2 q3 q4=>?_
 have hn0:NodeH ((ba,.cells [U2 bm bs ba])::(bm,.cells [.mp (some bM)])::(bM,.lp (MemJ seed bM) [])::(bs,.cells [.str seed])::H) seed bm bM bs ba:=
  ⟨by rw [qg (Ne.symm q4.1),ji],by rw [qg (Ne.symm q4.2.1),qg (Ne.symm q3.1),ji],by rw [qg (Ne.symm q4.2.2.1),qg (Ne.symm q3.2.1),qg (Ne.symm q2.1),ji],ji⟩
 have hK0:Kst ((ba,.cells [U2 bm bs ba])::(bm,.cells [.mp (some bM)])::(bM,.lp (MemJ seed bM) [])::(bs,.cells [.str seed])::H):=(((hg.push q1).push q2).push q3).push q4
 simp+contextual only [U2,U2,↓mz,↓uP,↓XP,qp,XW1,↓XI]
 simp only [U2] at hn0 hK0
 obtain ⟨H0,hH0⟩:∃H0,H0=(ba,AO.cells [.fn 82 [.ptr bm 0,.ptr bs 0,.ptr ba 0]])::(bm,.cells [.mp (some bM)])::(bM,.lp (MemJ seed bM) [])::(bs,.cells [.str seed])::H:=⟨_,rfl⟩
 rw [<-hH0] at hn0 hK0 ⊢
 refine Jc (fun b=>BldJ b []) (fun b K w h1 h2=>⟨h1,_,_,h2,.inl rfl,.inl ⟨rfl,none,rfl⟩,.inl ⟨rfl,rfl⟩⟩) (fun b=>BldJ.ok) (by intro w;exact Tryz.zeroValue114 w) ?_
 intro b hb
 simp+contextual only [qp]
 refine gQ fun hii=>?_
 have hei:=kL hii
 have hep:qr (i:Int)≠ []:=by simp [qr]
 simp+contextual only [↓uP,↓XP,qp]
 intro _
 refine Qj (l:= []) (m:=qr i) ji hep (by simp;omega) (fun K w x hh hr=>lw hep K w x hh hr) ?_
 rw [Nz,wT]
 simp+contextual only [↓mz,↓uP,↓XP,qp,XW1]
 have hK1:Kst ((b,.lp (BldJ b (qr i)) [])::H0):=hK0.push hb
 have hn1:NodeH ((b,.lp (BldJ b (qr i)) [])::H0) seed bm bM bs ba:=hn0.push hb
 refine KU (by omega) ht 0 hK1 hn1 (by omega) (by omega) ?_
 rw [show JB seed ht i m=qr i++jm (Jd seed i (uL (jp seed ht 0) i m) (oK (uL (jp seed ht 0) i m) 64)) 68++jm (kz seed i) ht from rfl] at h
 have nr:=jI seed ht 0
 generalize jp seed ht 0=root at nr h
 simp+contextual only [↓uP,↓XP,qp,XW1]
 refine pZ hK1 nr hm ?_
 have nd:=Qn root i m
 generalize uL root i m=d at nd h
 simp+contextual only [↓uP,↓XP,qp,XW1]
 refine Ua nd ?_
 generalize oK d 64=s at h
 simp+contextual only [yY,Nh,↓uP,↓XP,qh,XW1]
 intro _
 clear hK1 hn1 e1 l1 l2 l3 l4 hp1
 obtain ⟨t,ht68⟩:∃t:Nat,t=68:=⟨_,rfl⟩
 have h2:R (.tup [.str (qr i++jm (Jd seed i d s) t++jm (kz seed i) ht),.i 0]) H:=by rw [ht68];exact h
 clear h
 have hvl:=VR seed i d s
 refine XW.loopS hmm 83 (fun n:Nat=>[(0,.str seed),(1,.i (ht:Int)),(2,.i (i:Int)),(3,.str m),(10,U2 bm bs ba),(11,.ptr b 0),(50,.slc (vb (vU d s))),(51,.i 68),(52,.i (n:Int))]) (fun n=>(b,.lp (BldJ b (qr i++jm (Jd seed i d s) n)) [])::H0) (fun n=>t - n) (fun n=>n<=t) 0 (Nat.zero_le _) ⟨rfl,rfl,rfl,rfl,rfl,rfl,rfl,rfl,rfl,rfl,trivial⟩ (by rw [jm,Ny]) ?_
 intro n z hn K hN hE hR
 dsimp only [fl,zz,qa,qb]
 have hst:qr i++jm (Jd seed i d s) (n+1)=(qr i++jm (Jd seed i d s) n)++Jd seed i d s n:=by rw [jm,Np]
 have hwl:(qr (i:Int)++jm (Jd seed i d s) n).length<=9+16*n:=by rw [Nj,wO hvl];omega
 have h3:n=t->R (.tup [.str (qr i++jm (Jd seed i d s) n++jm (kz seed i) ht),.i 0]) H:=fun e=>by rw [e];exact h2
 have hwn:qr (i:Int)++jm (Jd seed i d s) n≠ []:=by simp [hep]
 generalize qr (i:Int)++jm (Jd seed i d s) n=w at hst hwl h3 hwn
 have hK1:Kst ((b,.lp (BldJ b w) [])::H0):=hK0.push hb
 have hn1:NodeH ((b,.lp (BldJ b w) [])::H0) seed bm bM bs ba:=hn0.push hb
 by_cases hlt:n<t
 ·have hlt':((n:Int)<68)=True:=qo
  have hlt2:(n<68)=True:=qo
  have hn00:((0:Int)<=(n:Int))=True:=qo
  have g:=Q0 (f:=vU d s) (i:=n) (by omega)
  have hd3:=Vv d s n
  simp+contextual only [U2,yY,Nh,hlt',hn00,g,Ni,↓mz,↓uP,↓XP,qh]
  refine fun _=>ae hK1 (by omega) ?_
  have ns:=yO seed i n
  have hv1:Jd seed i d s n=wi i n (yh seed i n) 0 (vU d s n):=rfl
  generalize yh seed i n=u at ns hv1
  simp+contextual only [↓uP,↓XP,qp,XW1]
  refine eR (n:=vU d s n) (by omega) hK1 ns (by omega) (by omega) ?_
  rw [<-hv1]
  have hv2:=hvl n
  generalize Jd seed i d s n=v at hv2 hst
  simp+contextual only [qt,Nat.mul_one,Nat.sub_zero,↓uP,↓JX,qh,XW1,qb,qe,↓XH]
  intro cn h14
  obtain ⟨n14,f14⟩:=h14
  have hge:qn (qT ((cn,.cells (jf v))::(b,.lp (BldJ b w) [])::H0) b) cn=some (.cells (jf v)):=by simp [qT,qn,n14]
  refine ⟨hv2,Qj (l:=w) (m:=v) (by simp [qn,n14]) (by intro e;rw [e] at hv2;simp at hv2) (by omega) (V5 hge hv2) ?_⟩
  rw [qm n14,wT,<-hst]
  simp+contextual only [↓uP,↓XP,qp,XW1]
  rw [qj (by omega)]
  exact hN (n+1) _ _ (by omega) (by omega) ⟨rfl,rfl,rfl,rfl,rfl,rfl,rfl,rfl,rfl,rfl,trivial⟩ (kK rfl)
 ·have hi2:n=t:=by omega
  have hlt':((n:Int)<68)=False:=qy
  have h:=h3 hi2
  simp+contextual only [U2,hlt',↓mz,↓uP,↓XP,qp]
  apply hE
  clear hE hN hR hK1 hn1 hlt' h3 h2 hst hvl
  have hwl2:w.length<=1200:=by omega
  clear hwl hi2 hn hlt ht68
  have hvl:=QK seed i
  simp+contextual only [↓uP,↓XP,qp,XW1]
  refine XW.loopS hmm 83 (fun l:Nat=>[(0,.str seed),(1,.i (ht:Int)),(2,.i (i:Int)),(3,.str m),(10,U2 bm bs ba),(11,.ptr b 0),(68,.i (ht:Int)),(69,.i (l:Int))]) (fun l=>(b,.lp (BldJ b (w++jm (kz seed i) l)) [])::H0) (fun l=>ht - l) (fun l=>l<=ht) 0 (Nat.zero_le _) ⟨rfl,rfl,rfl,rfl,rfl,rfl,rfl,rfl,rfl,trivial⟩ (by rw [jm,Ny]) ?_
  intro l z hl K hN hE hR
  dsimp only [fl,zz,qa,qb]
  have hst:w++jm (kz seed i) (l+1)=(w++jm (kz seed i) l)++kz seed i l:=by rw [jm,Np]
  have hwl:(w++jm (kz seed i) l).length<=1200+16*l:=by rw [Nj,wO hvl];omega
  have h3:l=ht->R (.tup [.str (w++jm (kz seed i) l),.i 0]) H:=fun e=>by rw [e];exact h
  have hwn2:w++jm (kz seed i) l≠ []:=by simp [hwn]
  generalize w++jm (kz seed i) l=x at hst hwl h3 hwn2
  have hK1:Kst ((b,.lp (BldJ b x) [])::H0):=hK0.push hb
  have hn1:NodeH ((b,.lp (BldJ b x) [])::H0) seed bm bM bs ba:=hn0.push hb
  by_cases hlt:l<ht
  ·have hlt':((l:Int)<(ht:Int))=True:=qo
   have hl0:((0:Int)<=(l:Int))=True:=qo
   simp+contextual only [U2,hlt',hl0,Ni,↓mz,↓uP,↓XP,qp]
   rw [lB hh hlt hi hp2]
   have hsb:=ex hlt hi
   have hpl:2 ^ l<=2 ^ 6:=Nat.pow_le_pow_right (by omega) (by omega)
   have hp3:2 ^ (ht - l)<=2 ^ 6:=Nat.pow_le_pow_right (by omega) (by omega)
   refine KU (by omega) l (oM i l) hK1 hn1 (Nq (Nat.mul_le_mul (show oM i l+1<=2 ^ 6 by omega) hpl) (by decide)) (by omega) ?_
   rw [show jp seed l (oM i l)=kz seed i l from rfl]
   have hv2:=hvl l
   generalize kz seed i l=v at hv2 hst
   simp+contextual only [qt,Nat.mul_one,Nat.sub_zero,↓uP,↓JX,qh,XW1,qb,qe,↓XH]
   intro cn h14
   obtain ⟨n14,f14⟩:=h14
   have hge:qn (qT ((cn,.cells (jf v))::(b,.lp (BldJ b x) [])::H0) b) cn=some (.cells (jf v)):=by simp [qT,qn,n14]
   refine ⟨hv2,Qj (l:=x) (m:=v) (by simp [qn,n14]) (by intro e;rw [e] at hv2;simp at hv2) (by omega) (V5 hge hv2) ?_⟩
   rw [qm n14,wT,<-hst]
   simp+contextual only [↓uP,↓XP,qp,XW1]
   rw [qj (by omega)]
   exact hN (l+1) _ _ (by omega) (by omega) ⟨rfl,rfl,rfl,rfl,rfl,rfl,rfl,rfl,rfl,trivial⟩ (kK rfl)
  ·have hi2:l=ht:=by omega
   have hlt':((l:Int)<(ht:Int))=False:=qy
   have h:=h3 hi2
   simp+contextual only [U2,hlt',↓mz,↓uP,↓XP,qp]
   apply hE
   simp+contextual only [↓mz,↓uP,↓XP,qp,XW1]
   refine Wj (l:=x) ji hwn2 (by omega) ?_
   rw [vY]
   simp+contextual only [↓uP,↓XP,qp]
   intro _
   have hb0:back H.length H0=H:=by rw [hH0];exact Gl rfl
   rw [hb0]
   exact h
theorem iF (h:i / 2 ^ l % 2=0):oM i l=i / 2 ^ l+1:=by
 unfold oM
 generalize i / 2 ^ l=v at h
 obtain ⟨k,rfl⟩:∃k,v=2*k:=⟨v / 2,by omega⟩
 apply Nat.eq_of_testBit_eq
 intro j
 rw [Nat.testBit_xor]
 cases j with
 |zero=>simp
 | succ j=>
  rw [Nat.testBit_succ,Nat.testBit_succ,Nat.testBit_succ,show (2*k+1) / 2=k by omega,show 2*k / 2=k by omega,show 1 / 2=0 from rfl]
  simp
theorem mW (h:i / 2 ^ l % 2=1):oM i l=i / 2 ^ l - 1:=by
 unfold oM
 generalize i / 2 ^ l=v at h
 obtain ⟨k,rfl⟩:∃k,v=2*k+1:=⟨v / 2,by omega⟩
 apply Nat.eq_of_testBit_eq
 intro j
 rw [Nat.testBit_xor]
 cases j with
 |zero=>simp
 | succ j=>
  rw [Nat.testBit_succ,Nat.testBit_succ,Nat.testBit_succ,show (2*k+1) / 2=k by omega,show (2*k+1 - 1) / 2=k by omega,show 1 / 2=0 from rfl]
  simp
theorem lR (hg:Kst0 H) (hs:seed.length=32) (hh:ht<=6) (hi:i<2 ^ ht) (hm:m.length<=100000)
  (h:R (.tup [.str (JB seed ht i m),.i 0]) H):ACall Tryz.prog 33 [.str seed,.i (ht:Int),.i (i:Int),.str m] H R:=by
 refine b33 fun hf=>?_
 have hbig:=qk
 obtain ⟨hp1,hp2,hp3⟩:=ua hh
 have hk:v8 seed (ht:Int)=true:=by
  unfold v8
  exact decide_eq_true ⟨hs,by omega,by omega⟩
 have l1:((i:Int)<0)=False:=qy
 have l2:(((2 ^ ht:Nat):Int)<=(i:Int))=False:=qy
 have l3:((1048576:Int)<(m.length:Int))=False:=qy
 have l4:((0:Int)<=(ht:Int))=True:=qo
 simp+contextual only [↓bL,↓bL,↓XP,qp,qa,qb]
 refine Gf ?_
 simp+contextual only [hk,hp1,l1,l2,l3,l4,Ni,↓bL,↓XP,qh,XW1,↓XH]
 intros
 refine UC hg (by omega) hh ?_
 have gl:=gW (seed:=seed) (ht:=ht) (n:=ht+1) (l:=ht) (by omega)
 rw [Nat.sub_self,Nat.pow_zero] at gl
 have gr:=z7 (seed:=seed) (l:=ht) (n:=1) (k:=0) (by omega)
 have l5:((ht:Int)<((ht+1:Nat):Int))=True:=qo
 have l6:(ht<ht+1)=True:=qo
 have nr:=jI seed ht 0
 rw [show JB seed ht i m=qr i++jm (Jd seed i (uL (jp seed ht 0) i m) (oK (uL (jp seed ht 0) i m) 64)) 68++jm (kz seed i) ht from rfl] at h
 generalize jp seed ht 0=root at nr gr h
 simp+contextual only [vG,uH,qt,Int.reduceLT,Nh,l4,l5,gl,gr,nr,qI nr,Ni,↓bL,↓XP,qh]
 refine fun _ _=>fq hg nr hm ?_
 have nd:=Qn root i m
 generalize uL root i m=d at nd h
 simp+contextual only [↓XP,qp,XW1]
 refine Wy nd ?_
 generalize oK d 64=s at h
 simp+contextual only [yY,↓bL,↓XP,qp]
 refine fun _=>oa fun hii=>?_
 have hei:=kL hii
 simp+contextual only [unb,↓bL,↓XP,qh,XW1]
 refine fun _=>⟨isb _,?_⟩
 clear hk l1 l2 l3 l4 hp1 gl gr l5 l6
 obtain ⟨t,ht68⟩:∃t:Nat,t=68:=⟨_,rfl⟩
 have h2:R (.tup [.str (qr i++jm (Jd seed i d s) t++jm (kz seed i) ht),.i 0]) H:=by rw [ht68];exact h
 clear h
 have hvl:=VR seed i d s
 refine XW.loopS hmm 94 (fun n:Nat=>[(0,.str seed),(1,.i (ht:Int)),(2,.i (i:Int)),(11,.own (Q2 seed ht (ht+1))),(12,.own (vb (vU d s))),(13,.str (qr i++jm (Jd seed i d s) n)),(14,.i (n:Int))]) (fun n=>H) (fun n=>t - n) (fun n=>n<=t) 0 (Nat.zero_le _) ?_ rfl ?_
 ·rw [show qr (i:Int)++jm (Jd seed i d s) 0=qr i by rw [jm,Ny]]
  exact ⟨rfl,rfl,rfl,rfl,rfl,rfl,rfl,rfl,trivial⟩
 intro n z hn K hN hE hR
 have hst:qr i++jm (Jd seed i d s) (n+1)=(qr i++jm (Jd seed i d s) n)++Jd seed i d s n:=by rw [jm,Np]
 have hwl:(qr (i:Int)++jm (Jd seed i d s) n).length<=9+16*n:=by rw [Nj,wO hvl];omega
 have h3:n=t->R (.tup [.str (qr i++jm (Jd seed i d s) n++jm (kz seed i) ht),.i 0]) H:=fun e=>by rw [e];exact h2
 dsimp only [fl,zz,qa,qb]
 generalize qr (i:Int)++jm (Jd seed i d s) n=w at hst hwl h3 ⊢
 by_cases hlt:n<t
 ·have hlt':((n:Int)<68)=True:=qo
  have hlt2:(n<68)=True:=qo
  have hn00:((0:Int)<=(n:Int))=True:=qo
  have g:=Q0 (f:=vU d s) (i:=n) (by omega)
  have hd3:=Vv d s n
  simp+contextual only [yY,Nh,hlt',hn00,g,Ni,↓bL,↓XP,qh]
  refine fun _=>⟨_,fun H1 hs1=>UL (hg.sub hs1) (by omega) ⟨rfl,rfl⟩,?_⟩
  have ns:=yO seed i n
  have hv1:Jd seed i d s n=wi i n (yh seed i n) 0 (vU d s n):=rfl
  generalize yh seed i n=u at ns hv1 ⊢
  simp+contextual only [↓XP,qp,XW1]
  refine ⟨_,fun H1 hs1=>G6 (n:=vU d s n) (by omega) (hg.sub hs1) ns (by omega) (by omega) ⟨rfl,rfl⟩,?_⟩
  rw [<-hv1]
  have hv2:=hvl n
  generalize Jd seed i d s n=v at hv2 hst ⊢
  simp+contextual only [↓XP,qp,XW1]
  refine ⟨_,fun H1 hs1=>un hv2 ⟨rfl,rfl⟩,?_⟩
  simp+contextual only [<-hst,↓bL,↓XP,qp]
  rw [qj (by omega)]
  exact fun _=>⟨by omega,hN (n+1) _ _ (by omega) (by omega) ⟨rfl,rfl,rfl,rfl,rfl,rfl,rfl,rfl,trivial⟩ (qz rfl)⟩
 ·have hi2:n=t:=by omega
  have hlt':((n:Int)<68)=False:=qy
  have h:=h3 hi2
  simp+contextual only [hlt',↓bL,↓XP,qp]
  apply hE
  clear hE hN hR hlt' h3 h2 hst hvl
  have hwl2:w.length<=1200:=by omega
  clear hwl hi2 hn hlt ht68
  have hvl:=QK seed i
  simp+contextual only [↓bL,↓XP,qp,XW1]
  refine XW.loopS hmm 94 (fun l:Nat=>[(0,.str seed),(1,.i (ht:Int)),(2,.i (i:Int)),(11,.own (Q2 seed ht (ht+1))),(13,.str (w++jm (kz seed i) l)),(15,.i ((i / 2 ^ l:Nat):Int)),(16,.i (l:Int))]) (fun l=>H) (fun l=>ht - l) (fun l=>l<=ht) 0 (Nat.zero_le _) ?_ rfl ?_
  ·rw [show w++jm (kz seed i) 0=w by rw [jm,Ny],show i / 2 ^ 0=i by simp]
   exact ⟨rfl,rfl,rfl,rfl,rfl,rfl,rfl,rfl,trivial⟩
  intro l z hl K hN hE hR
  have hst:w++jm (kz seed i) (l+1)=(w++jm (kz seed i) l)++kz seed i l:=by rw [jm,Np]
  have hwl:(w++jm (kz seed i) l).length<=1200+16*l:=by rw [Nj,wO hvl];omega
  have h3:l=ht->R (.tup [.str (w++jm (kz seed i) l),.i 0]) H:=fun e=>by rw [e];exact h
  dsimp only [fl,zz,qa,qb]
  generalize w++jm (kz seed i) l=x at hst hwl h3 ⊢
  by_cases hlt:l<ht
  ·have hlt':((l:Int)<(ht:Int))=True:=qo
   have hl0:((0:Int)<=(l:Int))=True:=qo
   have hsb:=ex hlt hi
   have hse:=iF (i:=i) (l:=l)
   have hso:=mW (i:=i) (l:=l)
   have hdv:i / 2 ^ (l+1)=i / 2 ^ l / 2:=by rw [Nat.pow_succ,Nat.div_div_eq_div_mul]
   have hdl:i / 2 ^ l<=i:=Nat.div_le_self _ _
   have gl:=gW (seed:=seed) (ht:=ht) (n:=ht+1) (l:=l) (by omega)
   have hpp:2 ^ (ht - l)<=2 ^ 6:=Nat.pow_le_pow_right (by omega) (by omega)
   have gr:=z7 (seed:=seed) (l:=l) (n:=2 ^ (ht - l)) (k:=oM i l) hsb
   rw [show jp seed l (oM i l)=kz seed i l from rfl] at gr
   generalize 2 ^ (ht - l)=q at gl gr hsb hpp
   have l5:((l:Int)<((ht+1:Nat):Int))=True:=qo
   have l6:(l<ht+1)=True:=qo
   have hv2:=hvl l
   generalize kz seed i l=v at gr hst hv2
   generalize i / 2 ^ l=y at hse hso hdv hdl ⊢
   have hmd:(y:Int).tmod 2=((y % 2:Nat):Int):=by rw [Int.tmod_eq_emod_of_nonneg (by omega)];omega
   have hdq:(y:Int).tdiv 2=((i / 2 ^ (l+1):Nat):Int):=by rw [Int.tdiv_eq_ediv_of_nonneg (by omega),hdv];omega
   have hdw:IntKind.i64.wrap ((i / 2 ^ (l+1):Nat):Int)=((i / 2 ^ (l+1):Nat):Int):=qi (by omega) (by omega)
   generalize he2:i / 2 ^ (l+1)=y2 at hdq hdw hdv ⊢
   have hs1:(((oM i l:Nat):Int)<(q:Int))=True:=qo
   have hs0:((0:Int)<=((oM i l:Nat):Int))=True:=qo
   have hs2:(oM i l<q)=True:=eq_true hsb
   rcases Nat.mod_two_eq_zero_or_one y with hy|hy
   case' inl=>
    have hsx:IntKind.i64.wrap ((y:Int)+1)=((oM i l:Nat):Int):=by rw [qj (by omega),hse hy]
    have hy2:(((y % 2:Nat):Int)=1)=False:=qy
   case' inr=>
    have hsx:IntKind.i64.wrap ((y:Int) - 1)=((oM i l:Nat):Int):=by rw [qi (by omega) (by omega),hso hy];omega
    have hy2:(((y % 2:Nat):Int)=1)=True:=qo
   all_goals simp+contextual only [vG,uH,qt,hlt',hl0,Ni,l5,gl,gr,hmd,hy2,hsx,hs1,hs0,hv2,qI hv2,↓bL,↓XP,qh,XW1]
   all_goals refine ⟨by decide,fun _=>un hv2 ?_⟩
   all_goals simp+contextual only [hdq,hdw,<-hst,↓bL,↓XP,qp,XW1]
   all_goals rw [qj (by omega)]
   all_goals subst he2
   all_goals exact fun _=>⟨by omega,by decide,hN (l+1) _ _ (by omega) (by omega) ⟨rfl,rfl,rfl,rfl,rfl,rfl,rfl,rfl,trivial⟩ (qz rfl)⟩
  ·have hi2:l=ht:=by omega
   have hlt':((l:Int)<(ht:Int))=False:=qy
   have h:=h3 hi2
   simp+contextual only [hlt',↓bL,↓XP,qp]
   apply hE
   simp+contextual only [↓XP,qp,XW1]
   exact h
def uU (x:Id3):List Int:= [x.o,x.s,x.i]
def wE (o:OpP):List Int:= [o.k]++uU o.on++uU o.to++ [o.n,o.a,o.b]
def jM (o:OpP):List UInt8:=qK (wE o)++qK (o.ids.flatMap uU)++yt [o.name,o.text]
def jj (l:List Rf):List Int:=l.flatMap fun r=>[r.o,r.s]
def jK (p:Pt):List UInt8:=qK [p.o,p.s,p.day]++qK (jj p.needs)++qr p.ops.length++p.ops.flatMap jM++qF p.sl
structure Fit (p:Pt):Prop where
 ops:p.ops.length<=1000
 needs:p.needs.length<=3000000
 ids:∀o∈p.ops,o.ids.length<=3000000
 name:∀o∈p.ops,o.name.length<=3000000
 text:∀o∈p.ops,o.text.length<=3000000
 sl:p.sl.length<=3000000
theorem oL:ints a++ints b=ints (a++b):=by simp [ints]
theorem o6 {α:Type} {l:List α} {f:α->List Int} {i:Nat} {d:α} (h:i<l.length):(l.take (i+1)).flatMap f=(l.take i).flatMap f++f (l.getD i d):=by
 rw [List.take_add_one,List.flatMap_append]
 simp [h]
theorem wB:(jj l).length=2*l.length:=by
 induction l with
 |nil=>rfl
 |cons x r ih=>simp only [jj,List.flatMap_cons,Nj,Nk,Nl] at ih ⊢;omega
theorem vN {l:List Id3}:(l.flatMap uU).length=3*l.length:=by
 induction l with
 |nil=>rfl
 |cons x r ih=>simp only [List.flatMap_cons,Nj,uU,Nk,Nl] at ih ⊢;omega
theorem nE {p:Pt} {acc:D} {b1:Nat} {H:AH} {Q:AQ} {F:List D} (hp:Fit p) (hF:Fr 123 [(1,.ptr b1 0),(3,acc),(4,.own []),(5,.i 0)] F) (hE:∀F',Fr 123 [(1,.ptr b1 0),(3,acc),(4,.own (ints (jj p.needs)))] F'->Q (.exit 0) F' ((b1,AO.cells p.d)::H)):XW Tryz.prog (vt 11) F ((b1,AO.cells p.d)::H) Q:=by
 have hbig:=qk
 have hpn:=hp.needs
 have hd:p.d= [.i p.o,.i p.s,.i p.day,.slc (qv p.needs),.slc (qw p.ops),.str p.sl]:=rfl
 refine XW.loopK hmm (fun F H'=>∃(i:Nat),i<=p.needs.length∧Fr 123 [(1,.ptr b1 0),(3,acc),(4,.own (ints (jj (p.needs.take i)))),(5,.i i)] F∧((b1,AO.cells p.d)::H)=H') (fun F H=>match F.getD 5 .any with| .int _ n'=>p.needs.length - n'.toNat|_=>0) ⟨0,by omega,hF,rfl⟩ ?_
 rintro _ _ ⟨i,hi,hF,rfl⟩ K hN hE' hR
 obtain ⟨z,rfl⟩:=hF.fl rfl
 try dsimp only [fl,zz,qa,qb] at*
 clear hF hR
 by_cases hlt:i<p.needs.length
 ·have nx:∀F',Fr 123 [(1,.ptr b1 0),(3,acc),(4,.own (ints (jj (p.needs.take i)++ [(p.needs.getD i default).o,(p.needs.getD i default).s]))),(5,.i ((i+1:Nat):Int))] F'->K .normal F' ((b1,AO.cells p.d)::H):=fun F' hF'=>hN _ _ ⟨i+1,hlt,by rw [show jj (p.needs.take (i+1))=jj (p.needs.take i)++ [(p.needs.getD i default).o,(p.needs.getD i default).s] from o6 (d:=default) hlt];exact hF',(qz rfl).symm⟩ (by
   rw [Na,hF'.2.2.2.2.1]
   simp only [Nc,Nd,Ng]
   omega)
  clear hN hE hE'
  have q1:=wM hlt
  have hl:(jj (p.needs.take i)).length<=6000000:=by rw [wB,Nw];omega
  generalize jj (p.needs.take i)=ac at nx hl ⊢
  generalize p.needs.getD i default=e at q1 nx
  have he:e.d= [.i e.o,.i e.s]:=rfl
  simp+contextual only [j9,jh,hd,q1,he,qj (show i<=big by omega),↓WZ,↓XP,qh,XW1,qb,qc,qe]
  refine fun _=>⟨fun _ _ _=>⟨vH,by omega,?_⟩,fun hge=>absurd (by omega) hge⟩
  rw [<-oL] at nx
  exact nx _ ⟨rfl,rfl,rfl,rfl,rfl,trivial⟩
 ·have hik:i=p.needs.length:=by omega
  subst hik
  clear hN
  simp+contextual only [j9,hd,↓WZ,↓XP,qh,XW1]
  rw [List.take_length]
  exact fun _=>hE' _ _ _ (hE _ ⟨rfl,rfl,rfl,rfl,trivial⟩)
theorem BP {o:OpP} {p1 acc l8:D} {q:Int} {b7:Nat} {H:AH} {Q:AQ} {F:List D} (ho:o.ids.length<=3000000) (hF:Fr 123 [(1,p1),(3,acc),(6,.i q),(7,.ptr b7 0),(8,l8),(9,.own []),(10,.i 0)] F) (hE:∀F',Fr 123 [(1,p1),(3,acc),(6,.i q),(7,.ptr b7 0),(8,l8),(9,.own (ints (o.ids.flatMap uU)))] F'->Q (.exit 4) F' ((b7,AO.cells o.d)::H)):XW Tryz.prog (vt 55) F ((b7,AO.cells o.d)::H) Q:=by
 have hbig:=qk
 have hod:o.d= [.i o.k,.i o.on.o,.i o.on.s,.i o.on.i,.i o.to.o,.i o.to.s,.i o.to.i,.slc (j5 o.ids),.i o.n,.str o.name,.str o.text,.i o.a,.i o.b]:=rfl
 refine XW.loopK hmm (fun F H'=>∃(i:Nat),i<=o.ids.length∧Fr 123 [(1,p1),(3,acc),(6,.i q),(7,.ptr b7 0),(8,l8),(9,.own (ints ((o.ids.take i).flatMap uU))),(10,.i i)] F∧((b7,AO.cells o.d)::H)=H') (fun F H=>match F.getD 10 .any with| .int _ n'=>o.ids.length - n'.toNat|_=>0) ⟨0,by omega,hF,rfl⟩ ?_
 rintro _ _ ⟨i,hi,hF,rfl⟩ K hN hE' hR
 obtain ⟨z,rfl⟩:=hF.fl rfl
 try dsimp only [fl,zz,qa,qb] at*
 clear hF hR
 by_cases hlt:i<o.ids.length
 ·have nx:∀F',Fr 123 [(1,p1),(3,acc),(6,.i q),(7,.ptr b7 0),(8,l8),(9,.own (ints ((o.ids.take i).flatMap uU++uU (o.ids.getD i default)))),(10,.i ((i+1:Nat):Int))] F'->K .normal F' ((b7,AO.cells o.d)::H):=fun F' hF'=>hN _ _ ⟨i+1,hlt,by rw [o6 (d:=default) hlt];exact hF',(qz rfl).symm⟩ (by
   rw [Na,hF'.2.2.2.2.2.2.2.1]
   simp only [Nc,Nd,Ng]
   omega)
  clear hN hE hE'
  have q1:=yp hlt
  have hl:((o.ids.take i).flatMap uU).length<=9000000:=by rw [vN,Nw];omega
  generalize (o.ids.take i).flatMap uU=ac at nx hl ⊢
  generalize o.ids.getD i default=e at q1 nx
  have he:e.d= [.i e.o,.i e.s,.i e.i]:=rfl
  simp+contextual only [qJ,hod,q1,he,↓WZ,↓XP,qh,XW1,qb]
  refine fun _=>⟨fun _=>VL (x:=e) ?_,fun hge=>absurd (by omega) hge⟩
  have h3: [e.o,e.s,e.i].length=3:=rfl
  simp+contextual only [jh,h3,qj (show i<=big by omega),↓WZ,↓XP,qh]
  rw [<-oL] at nx
  exact fun _=>⟨vH,vH,by omega,nx _ ⟨rfl,rfl,rfl,rfl,rfl,rfl,rfl,rfl,trivial⟩⟩
 ·have hik:i=o.ids.length:=by omega
  subst hik
  clear hN
  simp+contextual only [qJ,hod,↓WZ,↓XP,qh,XW1]
  rw [List.take_length]
  exact fun _=>hE' _ _ _ (hE _ ⟨rfl,rfl,rfl,rfl,rfl,rfl,rfl,trivial⟩)
end Go.Proofs.YtgopigkdcmhbbaaGreatDoor
end
noncomputable section
namespace Go.Proofs.YtgopigkdcmhbbaaGreatDoor
open Go.Xs
open Go Go.Aw
def pS:=yy Tryz.f86
def V86:=PLift.up (aI (aI (@unf (pS 14) (r [u,u,u]) rfl) (@unf (pS 10) (X (O (R [u,v,u,u] (pS 14))) (r [u,u])) rfl)) (aI (@unf (pS 4) (R [u] (X I (pS 10))) rfl) (@unf (pS 0) (R [u,u,u] (U (pS 4))) rfl)))
theorem HQ:type_of% V86.down:=V86.down
theorem b86:Bt 86 16 (pS 0) []:=bt Tryz.func86 rfl
end Go.Proofs.YtgopigkdcmhbbaaGreatDoor
end
section
namespace Go.Proofs.YtgopigkdcmhbbaaGreatDoor
open Go Go.Aw
variable {R:D->AH->Prop}
theorem CQ (hl:xs.length<=30000000) (hbH:qn H b=none) (h:R (.tup []) ((b,.cells [.own (ints (xs++uU x))])::H)):ACall Tryz.prog 85 [.ptr b 0,.agg x.d] ((b,.cells [.own (ints xs)])::H) R:=by
 refine b85 fun hf=>?_
 have hbig:=qk
 have hd:x.d= [.i x.o,.i x.s,.i x.i]:=rfl
 simp+contextual only [LO,hd,↓ig,↓XP,qh,XW1,qa,qb]
 intro b1 hb
 have hb0:=Ne.symm hb.1
 have hn:=js (H:=H) hb.2
 simp+contextual only [hb.1,uk hb.1,qg hb.1,qm,not_false_eq_true,jh,↓XP,qh,XW1,qb,qc,qe]
 refine ⟨.inl hbH,fun _ _ _=>⟨vH,by omega,?_⟩⟩
 rw [<-oL] at h
 exact h
theorem Cc (hl:xs.length<=30000000) (hcb:b≠c) (hbH:qn H b=none) (h:R (.tup []) ((c,o)::(b,.cells [.own (ints (xs++uU x))])::H)):ACall Tryz.prog 85 [.ptr b 0,.agg x.d] ((c,o)::(b,.cells [.own (ints xs)])::H) R:=by
 refine b85 fun hf=>?_
 have hbig:=qk
 have hd:x.d= [.i x.o,.i x.s,.i x.i]:=rfl
 simp+contextual only [LO,hd,hcb,qg hcb,qm,not_false_eq_true,↓ig,↓XP,qh,XW1,qa,qb]
 intro b1 hb
 have hb0:=Ne.symm hb.2.1
 have hn:=js (H:=H) hb.2.2
 simp+contextual only [uk hb.2.1,uk hcb,qg hcb,qg hb.2.1,qm hb.2.1,qm hcb,jh,↓XP,qh,XW1,qb,qc,qe]
 refine ⟨.inl hbH,fun _ _ _=>⟨vH,by omega,?_⟩⟩
 rw [<-oL] at h
 exact h
theorem tw (hfi:fi=85) (hi:ids.length<=3000000) (hl:xs.length<=10000000) (hbH:qn H b=none) (h:R (.tup []) ((b,.cells [.own (ints (xs++ids.flatMap uU))])::H)):ACall Tryz.prog 86 [.slc (j5 ids),.fn fi [.tup [],.ptr b 0]] ((b,.cells [.own (ints xs)])::H) R:=by
 refine b86 fun hf=>?_
 have hbig:=qk
 simp+contextual only [↓HQ,qJ,↓XP,qh,qa,qb]
 refine fun _=>XW.loopK hmm (fun F H'=>∃(i:Nat),i<=ids.length∧Fr 16 [(1,.fn fi [.tup [],.ptr b 0]),(6,.slc (j5 ids)),(7,.i ids.length),(8,.i i)] F∧((b,AO.cells [.own (ints (xs++(ids.take i).flatMap uU))])::H)=H') (fun F H=>match F.getD 8 .any with| .int _ n'=>ids.length - n'.toNat|_=>0) ⟨0,by omega,⟨rfl,rfl,rfl,rfl,rfl,trivial⟩,by simp⟩ ?_
 rintro _ _ ⟨i,hi',hF,rfl⟩ K hN hE' hR
 obtain ⟨z,rfl⟩:=hF.fl rfl
 try dsimp only [fl,zz,qa,qb] at*
 clear hF hR
 by_cases hlt:i<ids.length
 ·have nx:∀F' H',back ((b,AO.cells [.own (ints (xs++(ids.take i).flatMap uU))])::H).length H'=((b,AO.cells [.own (ints ((xs++(ids.take i).flatMap uU)++uU (ids.getD i default)))])::H)->Fr 16 [(1,.fn fi [.tup [],.ptr b 0]),(6,.slc (j5 ids)),(7,.i ids.length),(8,.i ((i+1:Nat):Int))] F'->K .normal F' H':=fun F' H' hH hF'=>hN _ _ ⟨i+1,hlt,hF',by rw [o6 (d:=default) hlt,<-Np];exact hH.symm⟩ (by
   rw [Na,hF'.2.2.2.2.1]
   simp only [Nc,Nd,Ng]
   omega)
  clear hN hE'
  have q1:=yp hlt
  have hl2:(xs++(ids.take i).flatMap uU).length<=20000000:=by rw [Nj,vN,Nw];omega
  generalize xs++(ids.take i).flatMap uU=ac at nx hl2 ⊢
  generalize ids.getD i default=e at q1 nx
  have he:e.d= [.i e.o,.i e.s,.i e.i]:=rfl
  simp+contextual only [qJ,hlt,Int.ofNat_lt,q1,he,↓HQ,↓XP,qh,XW1,qb]
  intro b5 hb
  rw [hfi]
  refine Cc (x:=e) (by omega) hb.1 hbH ?_
  rw [<-hfi]
  simp+contextual only [qj (show i<=big by omega),↓XP,qp,XW1]
  exact nx _ _ (kK rfl) ⟨rfl,rfl,rfl,rfl,rfl,trivial⟩
 ·have hik:i=ids.length:=by omega
  subst hik
  clear hN
  simp+contextual only [↓HQ,↓XP,qp]
  rw [List.take_length]
  refine hE' _ _ _ ?_
  simp+contextual only [↓XP,qp,XW1]
  exact h
theorem UD (h:∀x∈l,x.length<=3000000):(yt l).length<=(9+3000000)*l.length+(qr l.length).length:=by
 have:=zK h (by omega)
 rw [yt,Nj]
 omega
theorem Co (hp:Fit p) (hpre:pre.length<=100000000) (hF:Fr 123 [(1,.ptr b1 0),(3,.own (pre.map ql)),(6,.i 0)] F) (hE:(pre++p.ops.flatMap jM).length<=1000000000000->∀F',Fr 123 [(1,.ptr b1 0),(3,.own ((pre++p.ops.flatMap jM).map ql))] F'->Q (.exit 2) F' ((b1,AO.cells p.d)::H)):XW Tryz.prog (vt 30) F ((b1,AO.cells p.d)::H) Q:=by
 have hbig:=qk
 have hpo:=hp.ops
 have hd:p.d= [.i p.o,.i p.s,.i p.day,.slc (qv p.needs),.slc (qw p.ops),.str p.sl]:=rfl
 refine XW.loopK hmm (fun F H'=>∃(i:Nat),i<=p.ops.length∧(pre++(p.ops.take i).flatMap jM).length<=100000000+100000000*i∧Fr 123 [(1,.ptr b1 0),(3,.own ((pre++(p.ops.take i).flatMap jM).map ql)),(6,.i (i:Int))] F∧((b1,AO.cells p.d)::H)=H') (fun F H=>match F.getD 6 .any with| .int _ n'=>p.ops.length - n'.toNat|_=>0) ⟨0,by omega,by simpa using hpre,by simpa using hF,rfl⟩ ?_
 clear hF
 rintro _ _ ⟨i,hi,hln,hF,rfl⟩ K hN hE' hR
 obtain ⟨z,rfl⟩:=hF.fl rfl
 try dsimp only [fl,zz,qa,qb] at*
 clear hF hR
 by_cases hlt:i<p.ops.length
 ·have nx:(jM (p.ops.getD i default)).length<=100000000->∀F' H',back ((b1,AO.cells p.d)::H).length H'=((b1,AO.cells p.d)::H)->Fr 123 [(1,.ptr b1 0),(3,.own ((pre++(p.ops.take i).flatMap jM++jM (p.ops.getD i default)).map ql)),(6,.i ((i+1:Nat):Int))] F'->K .normal F' H':=fun hl F' H' hH hF'=>hN _ _ ⟨i+1,hlt,by
    rw [yU (d:=default) hlt,<-Np,Nj]
    omega,by rw [yU (d:=default) hlt,<-Np];exact hF',hH.symm⟩ (by
   rw [Na,hF'.2.2.2.1]
   simp only [Nc,Nd,Ng]
   omega)
  clear hN hE hE'
  have q1:=kO hlt
  have hm:p.ops.getD i default∈p.ops:=by rw [jB hlt];exact List.getElem_mem hlt
  have o1:=hp.ids _ hm
  have o2:=hp.name _ hm
  have o3:=hp.text _ hm
  generalize pre++(p.ops.take i).flatMap jM=ac at nx hln ⊢
  generalize p.ops.getD i default=o at q1 nx o1 o2 o3
  have hod:o.d= [.i o.k,.i o.on.o,.i o.on.s,.i o.on.i,.i o.to.o,.i o.to.s,.i o.to.i,.slc (j5 o.ids),.i o.n,.str o.name,.str o.text,.i o.a,.i o.b]:=rfl
  simp+contextual only [qQ,hd,q1,hod,↓WZ,↓XP,qh,XW1,qb,qc,qe]
  refine fun _=>⟨fun _ b7 hb _=>VL (x:=o.on) ?_,fun hge=>absurd (by omega) hge⟩
  obtain ⟨n17,h7⟩:=hb
  simp+contextual only [ints,↓WZ,↓XP,qh,XW1,qb,qc,qe]
  refine fun _=>VL (x:=o.to) ?_
  simp+contextual only [ints,↓WZ,↓XP,qh,XW1,qb,qc,qe]
  refine fun _ _ _ _=>BP (o:=o) (p1:= .ptr b1 0) (acc:= .own (ac.map ql)) (l8:= .own (ints (wE o))) (q:=i) (b7:=b7) o1 ⟨rfl,rfl,rfl,rfl,rfl,rfl,rfl,rfl,trivial⟩ (fun F' hF'=>?_)
  obtain ⟨z,rfl⟩:=hF'.fl rfl
  try dsimp only [fl,zz,qa,qb] at*
  clear hF'
  have l10:(wE o).length=10:=rfl
  have l3:=vN (l:=o.ids)
  simp+contextual only [hod,↓WZ,↓XP,qp,XW1,qf]
  refine Qz (by omega) fun k1=>?_
  simp+contextual only [↓WZ,↓XP,qh]
  refine fun _=>⟨qV,qV,by omega,Qz (by omega) fun k2=>?_⟩
  simp+contextual only [<-No,Nj,↓WZ,↓XP,qh,XW1,qc,qe]
  refine fun _=>⟨qV,qV,by omega,?_⟩
  have hb3:∀x∈ [o.name,o.text],x.length<=3000000:=by
   intro x hx
   simp only [Nu,N2,or_false] at hx
   rcases hx with rfl|rfl
   ·exact o2
   ·exact o3
  have k3:=UD hb3
  have k4:=yd (n:= [o.name,o.text].length) (by simp)
  refine fun _ _=>G3 (l:= [o.name,o.text]) (by simp) hb3 ?_
  simp+contextual only [<-No,Nj,qj (show i<=big by omega),↓WZ,↓XP,qh]
  have e2:([o.name,o.text]:List (List UInt8)).length=2:=rfl
  rw [e2] at k3 k4
  refine fun _=>⟨qV,qV,by omega,nx ?_ _ _ (kK rfl) ?_⟩
  ·simp only [jM,Nj]
   omega
  ·rw [show ac++jM o=ac++qK (wE o)++qK (o.ids.flatMap uU)++yt [o.name,o.text] by simp only [jM,Np]]
   exact ⟨rfl,rfl,rfl,rfl,trivial⟩
 ·have hik:i=p.ops.length:=by omega
  subst hik
  clear hN
  simp+contextual only [qQ,hd,↓WZ,↓XP,qh,XW1]
  rw [List.take_length] at hln ⊢
  simp only [<-hd]
  exact fun _=>hE' _ _ _ (hE (by omega) _ ⟨rfl,rfl,rfl,trivial⟩)
theorem eM (hp:Fit p) (h:(jK p).length<=2000000000000->R (.own ((jK p).map ql)) H):ACall Tryz.prog 68 [.agg p.d] H R:=by
 refine b68 fun hf=>?_
 have hbig:=qk
 have hpo:=hp.ops
 have hpn:=hp.needs
 have hps:=hp.sl
 have hd:p.d= [.i p.o,.i p.s,.i p.day,.slc (qv p.needs),.slc (qw p.ops),.str p.sl]:=rfl
 simp+contextual only [↓WZ,hd,↓WZ,↓XP,qh,XW1,qa,qc,qe]
 refine fun b1 h1 _ _ _=>Qz (l:= [p.o,p.s,p.day]) (by simp) fun k1=>?_
 have e3:([p.o,p.s,p.day]:List Int).length=3:=rfl
 rw [e3] at k1
 have hk:=fun c=>(c:Prop)
 simp+contextual only [↓WZ,↓XP,qp]
 simp only [<-hd]
 obtain ⟨pre,hpre⟩:∃pre,qK [p.o,p.s,p.day]=pre:=⟨_,rfl⟩
 have henc:jK p=pre++qK (jj p.needs)++qr p.ops.length++p.ops.flatMap jM++qF p.sl:=by rw [<-hpre];rfl
 rw [henc] at h
 rw [hpre] at k1 ⊢
 refine fun _=>nE (p:=p) (acc:= .own (pre.map ql)) hp ⟨rfl,rfl,rfl,rfl,rfl,trivial⟩ (fun F' hF'=>?_)
 obtain ⟨z,rfl⟩:=hF'.fl rfl
 try dsimp only [fl,zz,qa,qb] at*
 clear hF'
 have l2:=wB (l:=p.needs)
 simp+contextual only [hd,↓WZ,↓XP,qp,XW1]
 refine Qz (by omega) fun k2=>?_
 simp+contextual only [qQ,<-No,↓WZ,↓XP,qh,XW1]
 have k3:=yd (n:=p.ops.length) (by omega)
 refine fun _=>⟨qV,qV,by omega,fun _=>oa fun _=>?_⟩
 simp+contextual only [<-No,Nj,↓XP,qh]
 simp only [<-hd]
 refine fun _=>⟨qV,qV,by omega,?_⟩
 obtain ⟨pre2,hp2⟩:∃pre2,pre++qK (jj p.needs)++qr p.ops.length=pre2:=⟨_,rfl⟩
 have hl2:pre2.length<=100000000:=by rw [<-hp2];simp only [Nj];omega
 rw [hp2] at h ⊢
 refine Co (p:=p) (pre:=pre2) hp hl2 ⟨rfl,rfl,rfl,rfl,trivial⟩ (fun k5 F' hF'=>?_)
 obtain ⟨z,rfl⟩:=hF'.fl rfl
 try dsimp only [fl,zz,qa,qb] at*
 clear hF'
 simp only [Nj] at k5
 simp+contextual only [hd,↓WZ,↓XP,qh,XW1]
 have k6:=yd (n:=p.sl.length) (by omega)
 refine fun _=>KZ (by omega) ?_
 have k7:(qF p.sl).length<=9+3000000:=by simp only [qF,Nj];omega
 simp+contextual only [<-No,Nj,↓XP,qh]
 exact fun _=>⟨qV,qV,by omega,h (by simp only [Nj];omega)⟩
theorem p9 {p:Pt} {acc:D} {b1:Nat} {H:AH} {Q:AQ} {F:List D} (hp:p.needs.length<=3000000) (hF:Fr 99 [(1,.ptr b1 0),(3,acc),(4,.own []),(20,.slc (qv p.needs)),(21,.i p.needs.length),(22,.i 0)] F) (hE:∀F',Fr 99 [(1,.ptr b1 0),(3,acc),(4,.own (ints (jj p.needs)))] F'->Q (.exit 0) F' ((b1,AO.cells p.d)::H)):XW Tryz.prog (gG 11) F ((b1,AO.cells p.d)::H) Q:=by
 have hbig:=qk
 refine XW.loopK hmm (fun F H'=>∃(i:Nat),i<=p.needs.length∧Fr 99 [(1,.ptr b1 0),(3,acc),(4,.own (ints (jj (p.needs.take i)))),(20,.slc (qv p.needs)),(21,.i p.needs.length),(22,.i i)] F∧((b1,AO.cells p.d)::H)=H') (fun F H=>match F.getD 22 .any with| .int _ n'=>p.needs.length - n'.toNat|_=>0) ⟨0,by omega,hF,rfl⟩ ?_
 rintro _ _ ⟨i,hi,hF,rfl⟩ K hN hE' hR
 obtain ⟨z,rfl⟩:=hF.fl rfl
 try dsimp only [fl,zz,qa,qb] at*
 clear hF hR
 by_cases hlt:i<p.needs.length
 ·have nx:∀F' H',back ((b1,AO.cells p.d)::H).length H'=((b1,AO.cells p.d)::H)->Fr 99 [(1,.ptr b1 0),(3,acc),(4,.own (ints (jj (p.needs.take i)++ [(p.needs.getD i default).o,(p.needs.getD i default).s]))),(20,.slc (qv p.needs)),(21,.i p.needs.length),(22,.i ((i+1:Nat):Int))] F'->K .normal F' H':=fun F' H' hH hF'=>hN _ _ ⟨i+1,hlt,by rw [show jj (p.needs.take (i+1))=jj (p.needs.take i)++ [(p.needs.getD i default).o,(p.needs.getD i default).s] from o6 (d:=default) hlt];exact hF',hH.symm⟩ (by
   rw [Na,hF'.2.2.2.2.2.2.1]
   simp only [Nc,Nd,Ng]
   omega)
  clear hN hE hE'
  have q1:=wM hlt
  have hl:(jj (p.needs.take i)).length<=6000000:=by rw [wB,Nw];omega
  generalize jj (p.needs.take i)=ac at nx hl ⊢
  generalize p.needs.getD i default=e at q1 nx
  have he:e.d= [.i e.o,.i e.s]:=rfl
  simp+contextual only [j9,jh,hlt,Int.ofNat_lt,q1,he,qj (show i<=big by omega),↓Gi,↓uo,↓XP,qh,XW1,qb,qc,qe]
  refine fun b6 _ _ _=>⟨vH,by omega,?_⟩
  rw [<-oL] at nx
  exact nx _ _ (kK rfl) ⟨rfl,rfl,rfl,rfl,rfl,rfl,rfl,trivial⟩
 ·have hik:i=p.needs.length:=by omega
  subst hik
  clear hN
  simp+contextual only [↓Gi,↓uo,↓XP,qp]
  rw [List.take_length]
  exact hE' _ _ _ (hE _ ⟨rfl,rfl,rfl,rfl,trivial⟩)
theorem FT {b8} (o1:o.ids.length<=3000000) (o2:o.name.length<=3000000) (o3:o.text.length<=3000000) (hln:ac.length<=1000000000000) (hF:Fr 99 [(1,p1),(3,.own (ac.map ql)),(8,.ptr b8 0),(45,c45),(46,c46),(47,.i q)] F)
  (hE:(jM o).length<=100000000->∀F' H',(∃pre,H'=pre++((b8,AO.cells o.d)::H))->Fr 99 [(1,p1),(3,.own ((ac++jM o).map ql)),(45,c45),(46,c46),(47,.i q)] F'->Q .normal F' H'):xcode Tryz.prog x42_s9 F ((b8,AO.cells o.d)::H) Q:=by
 have hbig:=qk
 obtain ⟨z,rfl⟩:=hF.fl rfl
 try dsimp only [fl,zz,qa,qb] at*
 have hod:o.d= [.i o.k,.i o.on.o,.i o.on.s,.i o.on.i,.i o.to.o,.i o.to.s,.i o.to.i,.slc (j5 o.ids),.i o.n,.str o.name,.str o.text,.i o.a,.i o.b]:=rfl
 simp+contextual only [hod,↓Gi,↓uo,↓XP,qh,XW1,qb,qc,qe,reduceCtorEq]
 refine fun _=>⟨by decide,fun br cap hr b9 hb9=>?_⟩
 rw [Jx]
 refine Gz.take (j:=0) rfl (fun _=>ji) ?_
 have e1:jF ((br,.room cap [[D.i o.k]])::(b8,AO.cells o.d)::H) br [[D.i o.k]]=((b8,AO.cells o.d)::H):=by simp [jF,qT]
 rw [hod] at e1
 simp+contextual only [e1,↓uo,↓XP,qh]
 clear e1 hF
 obtain ⟨_,h89,h9⟩:=hb9
 obtain ⟨_,h8r⟩:=hr
 have hn9:qn ((b8,AO.cells o.d)::H) b9=none:=js ⟨Ne.symm h89,h9⟩
 rw [hod] at hn9
 simp+contextual only [qg h89,↓uo,↓XP,qp,qb,qe]
 refine CQ (x:=o.on) (xs:= [o.k]) (by simp) hn9 ?_
 simp+contextual only [qg h89,↓Gi,↓uo,↓XP,qh,XW1,qb,qe]
 refine CQ (x:=o.to) (xs:= [o.k]++uU o.on) (by simp [uU]) hn9 ?_
 simp+contextual only [jh,qg h89,↓Gi,↓uo,↓XP,qh,XW1,qb,qc,qe]
 refine fun _ _ _=>⟨vH,by simp [uU],?_⟩
 rw [show ints (o.k::(uU o.on++uU o.to))++ [[D.i o.n],[D.i o.a],[D.i o.b]]=ints (wE o) from rfl]
 have l10:(wE o).length=10:=rfl
 have l3:=vN (l:=o.ids)
 refine Q7 (by omega) fun k1=>?_
 simp+contextual only [qJ,qg h89,↓Gi,↓uo,↓XP,qh,XW1]
 refine fun _=>⟨qV,qV,by omega,fun zV hb10=>?_⟩
 obtain ⟨h910,h810,h10⟩:=hb10
 have hn10:qn ((b9,AO.cells [.slc (ints (o.k::(uU o.on++uU o.to)))])::(b8,AO.cells o.d)::H) zV=none:=js ⟨Ne.symm h910,Ne.symm h810,h10⟩
 rw [hod] at hn10
 refine fun _=>tw (ids:=o.ids) (xs:= []) rfl o1 (by simp) hn10 ?_
 rw [Nz]
 simp+contextual only [jh,↓Gi,↓uo,↓XP,qh,XW1]
 refine fun _=>Q7 (l:=o.ids.flatMap uU) (by omega) fun k2=>?_
 simp+contextual only [qg h89,qg h810,<-No,Nj,↓Gi,↓uo,↓XP,qh,XW1,qc,qe]
 refine fun _=>⟨qV,qV,by omega,?_⟩
 have hb3:∀x∈ [o.name,o.text],x.length<=3000000:=by
  intro x hx
  simp only [Nu,N2,or_false] at hx
  rcases hx with rfl|rfl
  ·exact o2
  ·exact o3
 have k3:=UD hb3
 have k4:=yd (n:= [o.name,o.text].length) (by simp)
 refine fun _ _=>ZG (l:= [o.name,o.text]) (by simp) hb3 ?_
 simp+contextual only [<-No,Nj,↓uo,↓XP,qh]
 have e2:([o.name,o.text]:List (List UInt8)).length=2:=rfl
 rw [e2] at k3 k4
 refine fun _=>⟨qV,qV,by omega,hE ?_ _ _ ⟨[(zV,_),(b9,_)],rfl⟩ ?_⟩
 ·simp only [jM,Nj]
  omega
 ·rw [show ac++jM o=ac++qK (wE o)++qK (o.ids.flatMap uU)++yt [o.name,o.text] by simp only [jM,Np]]
  exact ⟨rfl,rfl,rfl,rfl,rfl,rfl,trivial⟩
theorem dL:back H.length (A++H)=H:=by simp [back]
theorem Cr (hp:Fit p) (hpre:pre.length<=100000000) (hF:Fr 99 [(1,.ptr b1 0),(3,.own (pre.map ql)),(45,.slc (qw p.ops)),(46,.i p.ops.length),(47,.i 0)] F) (hE:(pre++p.ops.flatMap jM).length<=1000000000000->∀F',Fr 99 [(1,.ptr b1 0),(3,.own ((pre++p.ops.flatMap jM).map ql))] F'->Q (.exit 2) F' ((b1,AO.cells p.d)::H)):XW Tryz.prog x42_L11 F ((b1,AO.cells p.d)::H) Q:=by
 have hbig:=qk
 have hpo:=hp.ops
 refine XW.loopK hmm (fun F H'=>∃(i:Nat),i<=p.ops.length∧(pre++(p.ops.take i).flatMap jM).length<=100000000+100000000*i∧Fr 99 [(1,.ptr b1 0),(3,.own ((pre++(p.ops.take i).flatMap jM).map ql)),(45,.slc (qw p.ops)),(46,.i p.ops.length),(47,.i (i:Int))] F∧((b1,AO.cells p.d)::H)=H') (fun F H=>match F.getD 47 .any with| .int _ n'=>p.ops.length - n'.toNat|_=>0) ⟨0,by omega,by simpa using hpre,by simpa using hF,rfl⟩ ?_
 clear hF
 rintro _ _ ⟨i,hi,hln,hF,rfl⟩ K hN hE' hR
 obtain ⟨z,rfl⟩:=hF.fl rfl
 try dsimp only [fl,zz,qa,qb] at*
 clear hF hR
 by_cases hlt:i<p.ops.length
 ·have nx:(jM (p.ops.getD i default)).length<=100000000->∀F' H',back ((b1,AO.cells p.d)::H).length H'=((b1,AO.cells p.d)::H)->Fr 99 [(1,.ptr b1 0),(3,.own ((pre++(p.ops.take i).flatMap jM++jM (p.ops.getD i default)).map ql)),(45,.slc (qw p.ops)),(46,.i p.ops.length),(47,.i ((i+1:Nat):Int))] F'->K .normal F' H':=fun hl F' H' hH hF'=>hN _ _ ⟨i+1,hlt,by
    rw [yU (d:=default) hlt,<-Np,Nj]
    omega,by rw [yU (d:=default) hlt,<-Np];exact hF',hH.symm⟩ (by
   rw [Na,hF'.2.2.2.2.2.1]
   simp only [Nc,Nd,Ng]
   omega)
  clear hN hE hE'
  have q1:=kO hlt
  have hm:p.ops.getD i default∈p.ops:=by rw [jB hlt];exact List.getElem_mem hlt
  have o1:=hp.ids _ hm
  have o2:=hp.name _ hm
  have o3:=hp.text _ hm
  generalize pre++(p.ops.take i).flatMap jM=ac at nx hln ⊢
  generalize p.ops.getD i default=o at q1 nx o1 o2 o3
  have hod:o.d= [.i o.k,.i o.on.o,.i o.on.s,.i o.on.i,.i o.to.o,.i o.to.s,.i o.to.i,.slc (j5 o.ids),.i o.n,.str o.name,.str o.text,.i o.a,.i o.b]:=rfl
  simp+contextual only [x42_L11,nj,qQ,hlt,Int.ofNat_lt,q1,hod,↓uo,↓XP,qh,XW1,qb]
  refine fun b8 hb=>FT (o:=o) (ac:=ac) (q:=i) (b8:=b8) (p1:= .ptr b1 0) o1 o2 o3 (by omega) ⟨rfl,rfl,rfl,rfl,rfl,rfl,rfl,trivial⟩ fun hl F' H' hpre' hF'=>?_
  obtain ⟨pr,rfl⟩:=hpre'
  obtain ⟨z,rfl⟩:=hF'.fl rfl
  try dsimp only [fl,zz,qa,qb] at*
  clear hF'
  simp+contextual only [qj (show i<=big by omega),↓uo,↓XP,qp]
  refine nx hl _ _ ?_ ⟨rfl,rfl,rfl,rfl,rfl,rfl,trivial⟩
  rw [show pr++(b8,AO.cells o.d)::(b1,AO.cells p.d)::H=(pr++ [(b8,AO.cells o.d)])++(b1,AO.cells p.d)::H by simp]
  exact dL
 ·have hik:i=p.ops.length:=by omega
  subst hik
  clear hN
  simp+contextual only [↓Gi,↓uo,↓XP,qp]
  rw [List.take_length] at hln ⊢
  exact hE' _ _ _ (hE (by omega) _ ⟨rfl,rfl,rfl,trivial⟩)
theorem pN (hp:Fit p) (h:(jK p).length<=2000000000000->R (.own ((jK p).map ql)) H):ACall Tryz.prog 42 [.agg p.d] H R:=by
 refine b42 fun hf=>?_
 have hbig:=qk
 have hpo:=hp.ops
 have hpn:=hp.needs
 have hps:=hp.sl
 have hd:p.d= [.i p.o,.i p.s,.i p.day,.slc (qv p.needs),.slc (qw p.ops),.str p.sl]:=rfl
 simp+contextual only [x42,hd,↓Gi,↓uo,↓XP,qh,XW1,qa,qc,qe]
 refine fun b1 h1 _ _ _=>Q7 (l:= [p.o,p.s,p.day]) (by simp) fun k1=>?_
 have e3:([p.o,p.s,p.day]:List Int).length=3:=rfl
 rw [e3] at k1
 simp+contextual only [j9,↓Gi,↓uo,↓XP,qh,XW1]
 simp only [<-hd]
 obtain ⟨pre,hpre⟩:∃pre,qK [p.o,p.s,p.day]=pre:=⟨_,rfl⟩
 have henc:jK p=pre++qK (jj p.needs)++qr p.ops.length++p.ops.flatMap jM++qF p.sl:=by rw [<-hpre];rfl
 rw [henc] at h
 rw [hpre] at k1 ⊢
 refine fun _ _=>p9 (p:=p) (acc:= .own (pre.map ql)) hpn ⟨rfl,rfl,rfl,rfl,rfl,rfl,rfl,trivial⟩ (fun F' hF'=>?_)
 obtain ⟨z,rfl⟩:=hF'.fl rfl
 try dsimp only [fl,zz,qa,qb] at*
 clear hF'
 have l2:=wB (l:=p.needs)
 simp+contextual only [hd,↓Gi,↓uo,↓XP,qp,XW1]
 refine Q7 (l:=jj p.needs) (by omega) fun k2=>?_
 simp+contextual only [qQ,<-No,↓Gi,↓uo,↓XP,qh,XW1]
 have k3:=yd (n:=p.ops.length) (by omega)
 refine fun _=>⟨qV,qV,by omega,?_⟩
 refine fun _=>gQ fun _=>?_
 simp+contextual only [qQ,<-No,Nj,↓Gi,↓uo,↓XP,qh,XW1]
 simp only [<-hd]
 refine fun _=>⟨qV,qV,by omega,?_⟩
 obtain ⟨pre2,hp2⟩:∃pre2,pre++qK (jj p.needs)++qr p.ops.length=pre2:=⟨_,rfl⟩
 have hl2:pre2.length<=100000000:=by rw [<-hp2];simp only [Nj];omega
 rw [hp2] at h ⊢
 refine fun _=>Cr (p:=p) (pre:=pre2) hp hl2 ⟨rfl,rfl,rfl,rfl,rfl,rfl,trivial⟩ (fun k5 F' hF'=>?_)
 obtain ⟨z,rfl⟩:=hF'.fl rfl
 try dsimp only [fl,zz,qa,qb] at*
 clear hF'
 simp only [Nj] at k5
 simp+contextual only [hd,↓Gi,↓uo,↓XP,qh,XW1]
 have k6:=yd (n:=p.sl.length) (by omega)
 refine fun _=>KG (s:=p.sl) (by omega) ?_
 have k7:(qF p.sl).length<=9+3000000:=by simp only [qF,Nj];omega
 simp+contextual only [<-No,Nj,↓uo,↓XP,qh]
 exact fun _=>⟨qV,qV,by omega,h (by simp only [Nj];omega)⟩
theorem Qh {l:List UInt8}:∀x∈l.map ql,yQ x:=by
 intro x hx
 obtain ⟨t,_,rfl⟩:=List.mem_map.1 hx
 have:=t.toNat_lt
 exact ⟨by omega,by omega⟩
theorem K5 {l:List UInt8}:(l.map ql).map unbyte=l:=by
 rw [N0]
 refine (N1 fun x _=>?_).trans (List.map_id l)
 simp [ql,unbyte]
theorem py (hp:Fit p) (h:R (.str (jK {p with sl:= []})) H):ACall Tryz.prog 28 [.agg p.d] H R:=by
 refine b28 fun hf=>?_
 have hbig:=qk
 have hd:p.d= [.i p.o,.i p.s,.i p.day,.slc (qv p.needs),.slc (qw p.ops),.str p.sl]:=rfl
 simp+contextual only [↓U28,hd,↓U28.1,↓XP,qh,qa,qb]
 refine fun b1 h1=>pN (p:={p with sl:= []}) ⟨hp.ops,hp.needs,hp.ids,hp.name,hp.text,by simp⟩ fun k=>?_
 simp+contextual only [↓XP,qh,XW1]
 refine fun _=>⟨Qh,?_⟩
 rw [K5]
 exact h
def yI (x:Id3):Prop:=0<=x.o∧x.o<=7∧1<=x.s∧x.s<=16∧0<=x.i∧x.i<=15
instance (x:Id3):Decidable (yI x):=by unfold yI;exact inferInstance
def yi (a b:Int):Prop:=1<=a∧a<=b∧b<=1022679
instance (a b:Int):Decidable (yi a b):=by unfold yi;exact inferInstance
def uses (k:Int):List UInt8:=
 if k=1 then [65,88] else if k=2∨k=8∨k=10∨k=9 then [79,78] else if k=3 then [65,88,83] else if k=4 then [79,84,78,88]
 else if k=5∨k=7 then [79,88] else if k=6 then [79,65] else if k=11 then [79,83] else if k=12 then [79,65,88] else if k=13∨k=15 then [79,84,78]
 else if k=14 then [79,65,78] else if k=16 then [79,73,78] else if k=17 then [79,84] else if k=18 then [79,84,73] else []
def QR (k:Int):Int:=if k=16 then -1 else 0
def zG (o:OpP):Int:=if o.k=9∨o.k=14∨o.k=15 then 1 else if o.k=13 then 1023 else if o.k=16 then o.ids.length - 1 else 1048576
def gp (o:OpP):Prop:=QR o.k<=o.n∧o.n<=zG o
instance (o:OpP):Decidable (gp o):=by unfold gp;exact inferInstance
def Q3 (o:OpP):Prop:=(∀x∈o.ids,yI x∧(o.k=16->x≠o.on))∧o.ids.Nodup∧(o.k=18->o.ids.length=1)∧(o.k≠18->2<=o.ids.length∧o.ids.length<=4)
instance (o:OpP):Decidable (Q3 o):=by unfold Q3;exact inferInstance
theorem GS (h:R (.bool (decide (yI x))) H):ACall Tryz.prog 106 [.agg x.d] H R:=by
 refine Iu fun hf=>?_
 have hd:x.d= [.i x.o,.i x.s,.i x.i]:=rfl
 have hk:∀b,decide (yI x)=b->R (.bool b) H:=fun b hb=>hb▸h
 simp+contextual only [↓U106,hd,↓U106.1,↓XP,qh,XW1,qa]
 intro b1 h1
 repeat' (first|apply And.intro|intro _)
 all_goals first
  |exact hk _ (decide_eq_true (by unfold yI;omega))
  |exact hk _ (decide_eq_false (by unfold yI;omega))
  |exact hk _ (decide_eq_decide.2 (by unfold yI;omega))
  |skip
theorem mM (h:R (.bool (decide (yi a b))) H):ACall Tryz.prog 109 [.agg [.i a,.i b]] H R:=by
 refine H7 fun hf=>?_
 have hk:∀c,decide (yi a b)=c->R (.bool c) H:=fun b hb=>hb▸h
 simp+contextual only [↓U109,↓U109.1,↓XP,qh,XW1,qa]
 intro b1 h1
 repeat' (first|apply And.intro|intro _)
 all_goals first
  |exact hk _ (decide_eq_true (by unfold yi;omega))
  |exact hk _ (decide_eq_false (by unfold yi;omega))
  |exact hk _ (decide_eq_decide.2 (by unfold yi;omega))
  |skip
theorem my (h:R (.str (uses k)) H):ACall Tryz.prog 104 [.i k] H R:=by
 refine HD fun hf=>?_
 have hk:∀s,uses k=s->R (.str s) H:=fun b hb=>hb▸h
 simp+contextual only [↓Bs,↓Bs,↓XP,qp,qa]
 repeat' (first|apply And.intro|intro _)
 all_goals first
  |exact hk _ (by unfold uses;simp [*])
  |skip
theorem gz (h:R (.bool (decide (c∈s))) H):ACall Tryz.prog 105 [.str s,.int .u8 (c.toNat:Int)] H R:=by
 refine LG fun hf=>?_
 have hbig:=qk
 have hlen:s.length<=big:=hf.1
 have hk:∀b,decide (c∈s)=b->R (.bool b) H:=fun b hb=>hb▸h
 simp+contextual only [↓mf,↓mf,↓XP,qp,qa,qb]
 refine XW.loopK hmm (fun F H'=>∃(i:Nat),i<=s.length∧c ∉ s.take i∧Fr 17 [(0,.str s),(1,.int .u8 (c.toNat:Int)),(5,.i i)] F∧H=H') (fun F H=>match F.getD 5 .any with| .int _ n'=>s.length - n'.toNat|_=>0) ⟨0,by omega,by simp,⟨rfl,rfl,rfl,rfl,trivial⟩,rfl⟩ ?_
 rintro _ _ ⟨i,hi,hn,hF,rfl⟩ K hN hE hR
 obtain ⟨z,rfl⟩:=hF.fl rfl
 try dsimp only [fl,zz,qa,qb] at*
 clear hF
 by_cases hlt:i<s.length
 ·have nx:c ∉ s.take (i+1)->∀F',Fr 17 [(0,.str s),(1,.int .u8 (c.toNat:Int)),(5,.i ((i+1:Nat):Int))] F'->K .normal F' H:=fun hn F' hF'=>hN _ _ ⟨i+1,hlt,hn,hF',(qz rfl).symm⟩ (by
   rw [Na,hF'.2.2.2.1]
   simp only [Nc,Nd,Ng]
   omega)
  clear hN hE
  have hmem:s.getD i 0∈s:=by rw [jB hlt];exact List.getElem_mem hlt
  have hnt:s.getD i 0≠c->c ∉ s.take (i+1):=fun hne hm=>by
   rw [List.take_add_one] at hm
   rcases List.mem_append.1 hm with hm|hm
   ·exact hn hm
   ·simp [hlt] at hm
    exact hne (by simp [hlt,hm])
  generalize hd:s.getD i 0=d at hmem hnt
  have heq:(((d.toNat:Nat):Int)=((c.toNat:Nat):Int))=(d=c):=by
   apply propext
   constructor
   ·intro h;exact UInt8.toNat_inj.1 (by omega)
   ·intro h;rw [h]
  simp+contextual only [hd,heq,qj (show i<=big by omega),↓mf,↓XP,qh]
  refine fun _=>⟨fun _=>⟨fun he=>hR _ _ ?_,fun he=>nx (hnt he) _ ⟨rfl,rfl,rfl,rfl,trivial⟩⟩,fun hge=>absurd (by omega) hge⟩
  simp+contextual only [↓XP,qp]
  exact hk _ (decide_eq_true (he▸hmem))
 ·have hik:i=s.length:=by omega
  subst hik
  clear hN
  rw [List.take_length] at hn
  simp+contextual only [↓mf,↓XP,qh]
  refine fun _=>hE _ _ _ ?_
  simp+contextual only [↓XP,qp,XW1]
  exact hk _ (decide_eq_false hn)
theorem Al (h:R (.bool (decide (gp o))) H):ACall Tryz.prog 107 [.agg o.d] H R:=by
 refine Hv fun hf=>?_
 have hbig:=qk
 have hod:o.d= [.i o.k,.i o.on.o,.i o.on.s,.i o.on.i,.i o.to.o,.i o.to.s,.i o.to.i,.slc (j5 o.ids),.i o.n,.str o.name,.str o.text,.i o.a,.i o.b]:=rfl
 have hk:∀b,decide (gp o)=b->R (.bool b) H:=fun b hb=>hb▸h
 have w1:o.ids.length<=big->IntKind.i64.wrap ((o.ids.length:Int) - 1)=(o.ids.length:Int) - 1:=fun h=>qi (by omega) (by omega)
 simp+contextual only [↓BA,hod,qJ,w1,↓BA,↓XP,qh,XW1,qa]
 repeat' (first|apply And.intro|intro _)
 all_goals first
  |exact hk _ (decide_eq_decide.2 (by simp [gp,QR,zG, *]))
  |exact hk _ (decide_eq_false (by simp [gp,QR,zG, *];omega))
  |exact hk _ (decide_eq_false (by simp [gp,QR,zG, *]))
  |skip
theorem og {l:List Id3} {i:Nat} (h:i<l.length):(l.take (i+1)).Nodup↔(l.take i).Nodup∧l.getD i default ∉ l.take i:=by
 rw [List.take_add_one,show l[i]?.toList= [l.getD i default] by simp [h],List.nodup_append]
 constructor
 ·rintro ⟨h1,_,h3⟩
  exact ⟨h1,fun hm=>h3 _ hm _ (List.mem_singleton.2 rfl) rfl⟩
 ·rintro ⟨h1,h2⟩
  exact ⟨h1,by simp,fun a ha b hb e=>h2 (by rw [List.mem_singleton] at hb;rw [<-hb,<-e];exact ha)⟩
theorem Zq {o:OpP} {H:AH} (h:R (.bool (decide (Q3 o))) H):ACall Tryz.prog 108 [.agg o.d] H R:=by
 refine HC fun hf=>?_
 have hbig:=qk
 have hod:o.d= [.i o.k,.i o.on.o,.i o.on.s,.i o.on.i,.i o.to.o,.i o.to.s,.i o.to.i,.slc (j5 o.ids),.i o.n,.str o.name,.str o.text,.i o.a,.i o.b]:=rfl
 have hk:∀b,decide (Q3 o)=b->R (.bool b) H:=fun b hb=>hb▸h
 clear h
 simp+contextual only [↓Z0,hod,↓XP,qp,qa]
 intro b1 h1
 simp only [<-hod]
 refine XW.loopK hmm (fun F H'=>∃(i:Nat),i<=o.ids.length∧(∀x∈o.ids.take i,yI x∧(o.k=16->x≠o.on))∧(o.ids.take i).Nodup∧Fr 67 [(1,.ptr b1 0),(3,.i i)] F∧((b1,AO.cells o.d)::H)=H') (fun F H=>match F.getD 3 .any with| .int _ n'=>o.ids.length - n'.toNat|_=>0) ⟨0,by omega,by simp,by simp,⟨rfl,rfl,rfl,trivial⟩,rfl⟩ ?_
 rintro _ _ ⟨i,hi,hv,hn,hF,rfl⟩ K hN hE hR
 obtain ⟨z,rfl⟩:=hF.fl rfl
 try dsimp only [fl,zz,qa,qb] at*
 clear hF
 by_cases hlt:i<o.ids.length
 ·have nx:(yI (o.ids.getD i default)∧(o.k=16->o.ids.getD i default≠o.on))->o.ids.getD i default ∉ o.ids.take i->∀F',Fr 67 [(1,.ptr b1 0),(3,.i ((i+1:Nat):Int))] F'->K .normal F' ((b1,AO.cells o.d)::H):=fun h1 h2 F' hF'=>hN _ _ ⟨i+1,hlt,fun x hx=>by
    rw [List.take_add_one] at hx
    rcases List.mem_append.1 hx with hx|hx
    ·exact hv x hx
    ·simp [hlt] at hx
     have:x=o.ids.getD i default:=by simp [hlt,hx]
     rw [this];exact h1,(og hlt).2 ⟨hn,h2⟩,hF',(qz rfl).symm⟩ (by
   rw [Na,hF'.2.2.1]
   simp only [Nc,Nd,Ng]
   omega)
  clear hN hE
  have q1:=yp hlt
  have hm:o.ids.getD i default∈o.ids:=by rw [jB hlt];exact List.getElem_mem hlt
  generalize hxe:o.ids.getD i default=x at q1 nx hm
  have hxd:x.d= [.i x.o,.i x.s,.i x.i]:=rfl
  simp+contextual only [qJ,hod,q1,hxd,↓Z0,↓XP,qh,XW1,qb]
  refine fun _=>⟨fun _=>⟨_,fun _ _=>GS (x:=x) ⟨rfl,rfl⟩,?_⟩,fun hge=>absurd (by omega) hge⟩
  have hdc:∀y:Id3,(decide (x.o=y.o)&&(decide (x.s=y.s)&&decide (x.i=y.i)))=decide (x=y):=fun y=>by
   cases x;cases y;simp
  have inner:(yI x∧(o.k=16->x≠o.on))->∀F',Fr 67 [(1,.ptr b1 0),(3,.i i),(4,.i 0)] F'->XW Tryz.prog (vV 27) F' ((b1,AO.cells o.d)::H) (kU 2 (kU 1 (Vg Tryz.prog (vV 43) K))):=fun hg F' hF'=>by
   refine XW.loopK hmm (fun F H'=>∃(k:Nat),k<=i∧x ∉ o.ids.take k∧Fr 67 [(1,.ptr b1 0),(3,.i i),(4,.i k)] F∧((b1,AO.cells o.d)::H)=H') (fun F H=>match F.getD 4 .any with| .int _ n'=>i - n'.toNat|_=>0) ⟨0,by omega,by simp,hF',rfl⟩ ?_
   rintro _ _ ⟨k,hki,hnk,hF,rfl⟩ K2 hN2 hE2 hR2
   obtain ⟨z2,rfl⟩:∃z2:Nat->D,_=(let z:=z2; [z 0,.ptr b1 0,z 2,.i i,.i k,z 5,z 6,z 7,z 8,z 9,z 10,z 11,z 12,z 13,z 14,z 15,z 16,z 17,z 18,z 19,z 20,z 21,z 22,z 23,z 24,z 25,z 26,z 27,z 28,z 29,z 30,z 31,z 32,z 33,z 34,z 35,z 36,z 37,z 38,z 39,z 40,z 41,z 42,z 43,z 44,z 45,z 46,z 47,z 48,z 49,z 50,z 51,z 52,z 53,z 54,z 55,z 56,z 57,z 58,z 59,z 60,z 61,z 62,z 63,z 64,z 65,z 66]):=hF.lit
   clear hF hF'
   by_cases hlk:k<i
   ·have nx2:x≠o.ids.getD k default->∀F',Fr 67 [(1,.ptr b1 0),(3,.i i),(4,.i ((k+1:Nat):Int))] F'->K2 .normal F' ((b1,AO.cells o.d)::H):=fun h1 F' hF'=>hN2 _ _ ⟨k+1,hlk,fun hx=>by
      rw [List.take_add_one] at hx
      rcases List.mem_append.1 hx with hx|hx
      ·exact hnk hx
      ·simp [show k<o.ids.length by omega] at hx
       exact h1 (by simp [show k<o.ids.length by omega,hx]),hF',(qz rfl).symm⟩ (by
     rw [Na,hF'.2.2.2.1]
     simp only [Nc,Nd,Ng]
     omega)
    have q2:=yp (l:=o.ids) (i:=k) (by omega)
    have hny:o.ids.getD k default=x->¬Q3 o:=fun he ho=>by
     have h2:=(ho.2.1).sublist (List.take_sublist (i+1) o.ids)
     exact ((og hlt).1 h2).2 (by
      rw [hxe,<-he,jB (show k<o.ids.length by omega)]
      exact List.mem_take_iff_getElem.2 ⟨k,by omega,rfl⟩)
    generalize o.ids.getD k default=y at nx2 q2 hny
    have hyd:y.d= [.i y.o,.i y.s,.i y.i]:=rfl
    have hdy:(decide (y.o=x.o)&&(decide (y.s=x.s)&&decide (y.i=x.i)))=decide (y=x):=by
     cases x;cases y;simp
    have hlt':(k:Int)<(i:Int):=by omega
    by_cases hyx:y=x
    ·simp+contextual only [qJ,hod,q1,q2,hxd,hyx,hlt',↓Z0,↓XP,qh,XW1,qb]
     refine fun _=>⟨by omega,by omega,hR2 _ _ ?_⟩
     simp+contextual only [↓XP]
     refine hR _ _ ?_
     simp+contextual only [↓XP,qp]
     exact hk _ (decide_eq_false (hny hyx))
    ·simp+contextual only [qJ,hod,q1,q2,hxd,hyd,hdy,hyx,hlt',qj (show k<=big by omega),↓Z0,↓XP,qh,XW1,qb]
     simp only [<-hod]
     exact fun _=>⟨by omega,by omega,nx2 (Ne.symm hyx) _ ⟨rfl,rfl,rfl,rfl,trivial⟩⟩
   ·have hik:k=i:=by omega
    subst hik
    clear hN2
    simp+contextual only [hod,↓Z0,↓XP,qp]
    refine hE2 _ _ _ ?_
    simp+contextual only [qj (show k<=big by omega),↓Z0,↓XP,qp,XW1,qf]
    simp only [<-hod]
    exact nx hg hnk _ ⟨rfl,rfl,rfl,trivial⟩
  by_cases hok:yI x
  ·by_cases hk16:o.k=16
   ·have hk16':(o.k=16)=True:=eq_true hk16
    by_cases hxo:x=o.on
    ·have hxo':(x=o.on)=True:=eq_true hxo
     simp+contextual only [qJ,q1,hxd,hok,hk16',hdc,hxo',↓XP,qh,XW1,qb,qe]
     refine fun _ _=>⟨by omega,hR _ _ ?_⟩
     simp+contextual only [↓XP,qp]
     exact hk _ (decide_eq_false (fun hh=>(hh.1 x hm).2 hk16 hxo))
    ·simp+contextual only [qJ,q1,hxd,hok,hk16',hdc,hxo,↓XP,qh,XW1,qb,qe]
     simp only [<-hod]
     exact fun _ _=>⟨by omega,inner ⟨hok,fun _=>hxo⟩ _ ⟨rfl,rfl,rfl,rfl,trivial⟩⟩
   ·have hk16':(o.k=16)=False:=eq_false hk16
    simp+contextual only [hok,hk16',↓XP,qh,XW1]
    simp only [<-hod]
    exact fun _=>inner ⟨hok,fun h=>(hk16 h).elim⟩ _ ⟨rfl,rfl,rfl,rfl,trivial⟩
  ·simp+contextual only [hok,↓XP,qp,XW1]
   refine hR _ _ ?_
   simp+contextual only [↓XP,qp]
   exact hk _ (decide_eq_false (fun hh=>hok (hh.1 x hm).1))
 ·have hik:i=o.ids.length:=by omega
  subst hik
  clear hN
  rw [List.take_length] at hn hv
  simp+contextual only [qJ,hod,↓Z0,↓XP,qh,XW1]
  refine fun _=>hE _ _ _ ?_
  have hk18:∀{c:Int},(o.k=c)=(o.k=c):=rfl
  simp+contextual only [qJ,↓Z0,↓XP,qh,XW1]
  have c1:((o.ids.length:Int)=1)=(o.ids.length=1):=by apply propext;omega
  have c2:(2<=(o.ids.length:Int))=(2<=o.ids.length):=by apply propext;omega
  have c3:((o.ids.length:Int)<=4)=(o.ids.length<=4):=by apply propext;omega
  refine fun _=>⟨fun e _=>?_,fun e _=>⟨fun e2=>?_,fun e2=>?_⟩⟩
  ·exact hk _ (decide_eq_decide.2 ⟨fun h=>by have:=h.2.2.1 e;omega,fun h=>⟨hv,hn,fun _=>by omega,fun h=>(h e).elim⟩⟩)
  ·exact hk _ (decide_eq_decide.2 ⟨fun h=>by have:=h.2.2.2 e;omega,fun h=>⟨hv,hn,fun h=>(e h).elim,fun _=>by omega⟩⟩)
  ·exact hk _ (decide_eq_false (fun h=>by have:=h.2.2.2 e;omega))
def su (o:OpP):Prop:=uses o.k≠ []∧(79∈uses o.k->yI o.on)∧(79 ∉ uses o.k->o.on=Ja)∧(84∈uses o.k->yI o.to)∧(84 ∉ uses o.k->o.to=Ja)
def pp (o:OpP):Prop:=(78∈uses o.k->gp o)∧(78 ∉ uses o.k->o.n=0)∧(73∈uses o.k->Q3 o)∧(73 ∉ uses o.k->o.ids= [])
def ib (o:OpP):Prop:=(65∈uses o.k->1<=o.name.length∧o.name.length<=16)∧(65 ∉ uses o.k->o.name= [])∧(88∈uses o.k->o.text.length<=1024)∧(88 ∉ uses o.k->o.text= [])
def bW (o:OpP):Prop:=(83∈uses o.k->yi o.a o.b)∧(83 ∉ uses o.k->o.a=0∧o.b=0)
def Wb (o:OpP):Prop:=o.k=17->o.on≠o.to
instance (o:OpP):Decidable (su o):=by unfold su;exact inferInstance
instance (o:OpP):Decidable (pp o):=by unfold pp;exact inferInstance
instance (o:OpP):Decidable (ib o):=by unfold ib;exact inferInstance
instance (o:OpP):Decidable (bW o):=by unfold bW;exact inferInstance
instance (o:OpP):Decidable (Wb o):=by unfold Wb;exact inferInstance
def WO (o:OpP):Prop:=su o∧pp o∧ib o∧bW o∧Wb o
instance (o:OpP):Decidable (WO o):=by unfold WO;exact inferInstance
theorem gI {x y:Id3}:(decide (x.o=y.o)&&(decide (x.s=y.s)&&decide (x.i=y.i)))=decide (x=y):=by
 cases x;cases y;simp
theorem vZ {x:Id3}:(decide (x.o=0)&&(decide (x.s=0)&&decide (x.i=0)))=decide (x=Ja):=gI (y:=Ja)
theorem ZK (h:R (.bool (decide ((79:UInt8)∈s))) H):ACall Tryz.prog 105 [.str s,.int .u8 79] H R:=gz (c:=79) h
theorem QZ (h:R (.bool (decide ((84:UInt8)∈s))) H):ACall Tryz.prog 105 [.str s,.int .u8 84] H R:=gz (c:=84) h
theorem GC (h:R (.bool (decide ((78:UInt8)∈s))) H):ACall Tryz.prog 105 [.str s,.int .u8 78] H R:=gz (c:=78) h
theorem J5 (h:R (.bool (decide ((73:UInt8)∈s))) H):ACall Tryz.prog 105 [.str s,.int .u8 73] H R:=gz (c:=73) h
theorem ZH (h:R (.bool (decide ((65:UInt8)∈s))) H):ACall Tryz.prog 105 [.str s,.int .u8 65] H R:=gz (c:=65) h
theorem QP (h:R (.bool (decide ((88:UInt8)∈s))) H):ACall Tryz.prog 105 [.str s,.int .u8 88] H R:=gz (c:=88) h
theorem ZJ (h:R (.bool (decide ((83:UInt8)∈s))) H):ACall Tryz.prog 105 [.str s,.int .u8 83] H R:=gz (c:=83) h
theorem v_0 {o:OpP} {b1 b4:Nat} {F:List D} {H:AH} (n14:b1≠b4) (hF:Fr 169 [(1,.ptr b1 0),(3,.str (uses o.k)),(4,.ptr b4 0)] F) (h:R (.bool (decide (Wb o))) H):xcode Tryz.prog (Kr 38) F ((b4,AO.cells [.i 0,.i 0,.i 0])::(b1,AO.cells o.d)::H) (jX Tryz.prog [.tmp 2] H.length R):=by
 have hod:o.d= [.i o.k,.i o.on.o,.i o.on.s,.i o.on.i,.i o.to.o,.i o.to.s,.i o.to.i,.slc (j5 o.ids),.i o.n,.str o.name,.str o.text,.i o.a,.i o.b]:=rfl
 have hk:∀b,decide (Wb o)=b->R (.bool b) H:=fun b hb=>hb▸h
 obtain ⟨z,rfl⟩:=hF.fl rfl
 try dsimp only [fl,zz,qa,qb] at*
 simp+contextual only [hod,qg,n14,gI,↓U67,↓XP,qh,XW1,qb,qe]
 repeat' (first|apply And.intro|intro _)
 ·exact hk _ (by simp [Wb, *])
 ·exact hk _ (by simp [Wb, *])
theorem v_1 {b4} (n14:b1≠b4) (hF:Fr 169 [(1,.ptr b1 0),(3,.str (uses o.k)),(4,.ptr b4 0)] F) (h:R (.bool (decide (bW o∧Wb o))) H):xcode Tryz.prog (Kr 30) F ((b4,AO.cells [.i 0,.i 0,.i 0])::(b1,AO.cells o.d)::H) (jX Tryz.prog [.tmp 2] H.length R):=by
 have hod:o.d= [.i o.k,.i o.on.o,.i o.on.s,.i o.on.i,.i o.to.o,.i o.to.s,.i o.to.i,.slc (j5 o.ids),.i o.n,.str o.name,.str o.text,.i o.a,.i o.b]:=rfl
 have hk:∀b,decide (bW o∧Wb o)=b->R (.bool b) H:=fun b hb=>hb▸h
 have go:bW o->∀F',Fr 169 [(1,.ptr b1 0),(3,.str (uses o.k)),(4,.ptr b4 0)] F'->xcode Tryz.prog (Kr 38) F' ((b4,AO.cells [.i 0,.i 0,.i 0])::(b1,AO.cells o.d)::H) (jX Tryz.prog [.tmp 2] H.length R):=fun h4 F' hF'=>v_0 n14 hF' (hk _ (by simp only [h4,true_and]))
 obtain ⟨z,rfl⟩:=hF.fl rfl
 try dsimp only [fl,zz,qa,qb] at*
 clear hF h
 simp+contextual only [↓U67.1.2.1,hod,↓XP,qp]
 intros
 refine ZJ ?_
 by_cases hS:(83:UInt8)∈uses o.k
 ·skip
  simp+contextual only [qg,n14,hS,↓XP,qh,XW1,qb]
  intros
  refine mM (a:=o.a) (b:=o.b) ?_
  by_cases oS:yi o.a o.b
  ·skip
   simp+contextual only [oS,↓XP,qp,XW1]
   intros
   refine ZJ ?_
   simp+contextual only [hS,↓XP,qp,XW1]
   intros
   simp only [<-hod]
   exact go ⟨fun _=>oS,fun hh=>(hh hS).elim⟩ _ ⟨rfl,rfl,rfl,rfl,trivial⟩
  ·skip
   simp+contextual only [oS,↓XP,qp,XW1]
   intros
   exact hk _ (decide_eq_false (fun hh=>oS (hh.1.1 hS)))
 ·skip
  simp+contextual only [hS,↓XP,qp,XW1]
  intros
  refine ZJ ?_
  by_cases bS:o.a=0∧o.b=0
  ·skip
   simp+contextual only [qg,n14,hS,eq_true bS.1,eq_true bS.2,↓XP,qh,XW1,qb]
   intros
   simp only [<-hod]
   exact go ⟨fun hh=>(hS hh).elim,fun _=>bS⟩ _ ⟨rfl,rfl,rfl,rfl,trivial⟩
  ·skip
   by_cases sS:o.a=0
   ·skip
    simp+contextual only [qg,n14,hS,eq_true sS,(eq_false (fun h=>bS ⟨sS,h⟩):(o.b=0)=False),↓XP,qh,XW1,qb]
    intros
    exact hk _ (decide_eq_false (fun hh=>bS (hh.1.2 hS)))
   ·skip
    simp+contextual only [qg,n14,hS,eq_false sS,↓XP,qh,XW1]
    intros
    exact hk _ (decide_eq_false (fun hh=>bS (hh.1.2 hS)))
theorem v_2 {b4} (n14:b1≠b4) (hF:Fr 169 [(1,.ptr b1 0),(3,.str (uses o.k)),(4,.ptr b4 0)] F) (h:R (.bool (decide (ib o∧bW o∧Wb o))) H):xcode Tryz.prog (Kr 22) F ((b4,AO.cells [.i 0,.i 0,.i 0])::(b1,AO.cells o.d)::H) (jX Tryz.prog [.tmp 2] H.length R):=by
 have hod:o.d= [.i o.k,.i o.on.o,.i o.on.s,.i o.on.i,.i o.to.o,.i o.to.s,.i o.to.i,.slc (j5 o.ids),.i o.n,.str o.name,.str o.text,.i o.a,.i o.b]:=rfl
 have hk:∀b,decide (ib o∧bW o∧Wb o)=b->R (.bool b) H:=fun b hb=>hb▸h
 have go:ib o->∀F',Fr 169 [(1,.ptr b1 0),(3,.str (uses o.k)),(4,.ptr b4 0)] F'->xcode Tryz.prog (Kr 30) F' ((b4,AO.cells [.i 0,.i 0,.i 0])::(b1,AO.cells o.d)::H) (jX Tryz.prog [.tmp 2] H.length R):=fun h4 F' hF'=>v_1 n14 hF' (hk _ (by simp only [h4,true_and]))
 obtain ⟨z,rfl⟩:=hF.fl rfl
 try dsimp only [fl,zz,qa,qb] at*
 clear hF h
 simp+contextual only [↓U67.1.2.2,hod,↓XP,qp]
 intros
 refine ZH ?_
 by_cases hA:(65:UInt8)∈uses o.k
 ·skip
  by_cases oA:1<=o.name.length∧o.name.length<=16
  ·skip
   simp+contextual only [qg,n14,hA,(qy:((o.name.length:Int)<1)=False),(qy:(16<(o.name.length:Int))=False),↓XP,qh,XW1]
   intros
   refine ZH ?_
   simp+contextual only [hA,↓XP,qp,XW1]
   intros
   refine QP ?_
   by_cases hX:(88:UInt8)∈uses o.k
   ·skip
    by_cases oX:o.text.length<=1024
    ·skip
     simp+contextual only [qg,n14,hX,(qy:(1024<(o.text.length:Int))=False),↓XP,qh,XW1]
     intros
     refine QP ?_
     simp+contextual only [hX,↓XP,qp,XW1]
     intros
     simp only [<-hod]
     exact go ⟨fun _=>oA,fun hh=>(hh hA).elim,fun _=>oX,fun hh=>(hh hX).elim⟩ _ ⟨rfl,rfl,rfl,rfl,trivial⟩
    ·skip
     simp+contextual only [qg,n14,hX,(qo:(1024<(o.text.length:Int))=True),↓XP,qh,XW1]
     intros
     exact hk _ (decide_eq_false (fun hh=>oX (hh.1.2.2.1 hX)))
   ·skip
    simp+contextual only [hX,↓XP,qp,XW1]
    intros
    refine QP ?_
    by_cases bX:o.text= []
    ·skip
     simp+contextual only [qg,n14,hX,eq_true bX,↓XP,qh,XW1]
     intros
     simp only [<-hod]
     exact go ⟨fun _=>oA,fun hh=>(hh hA).elim,fun hh=>(hX hh).elim,fun _=>bX⟩ _ ⟨rfl,rfl,rfl,rfl,trivial⟩
    ·skip
     simp+contextual only [qg,n14,hX,eq_false bX,↓XP,qh,XW1]
     intros
     exact hk _ (decide_eq_false (fun hh=>bX (hh.1.2.2.2 hX)))
  ·skip
   by_cases sA:o.name.length<1
   ·skip
    simp+contextual only [qg,n14,hA,(qo:((o.name.length:Int)<1)=True),↓XP,qh,XW1]
    intros
    exact hk _ (decide_eq_false (fun hh=>oA (hh.1.1 hA)))
   ·skip
    simp+contextual only [qg,n14,hA,(qy:((o.name.length:Int)<1)=False),(qo:(16<(o.name.length:Int))=True),↓XP,qh,XW1]
    intros
    exact hk _ (decide_eq_false (fun hh=>oA (hh.1.1 hA)))
 ·skip
  simp+contextual only [hA,↓XP,qp,XW1]
  intros
  refine ZH ?_
  by_cases bA:o.name= []
  ·skip
   simp+contextual only [qg,n14,hA,eq_true bA,↓XP,qh,XW1]
   intros
   refine QP ?_
   by_cases hX:(88:UInt8)∈uses o.k
   ·skip
    by_cases oX:o.text.length<=1024
    ·skip
     simp+contextual only [qg,n14,hX,(qy:(1024<(o.text.length:Int))=False),↓XP,qh,XW1]
     intros
     refine QP ?_
     simp+contextual only [hX,↓XP,qp,XW1]
     intros
     simp only [<-hod]
     exact go ⟨fun hh=>(hA hh).elim,fun _=>bA,fun _=>oX,fun hh=>(hh hX).elim⟩ _ ⟨rfl,rfl,rfl,rfl,trivial⟩
    ·skip
     simp+contextual only [qg,n14,hX,(qo:(1024<(o.text.length:Int))=True),↓XP,qh,XW1]
     intros
     exact hk _ (decide_eq_false (fun hh=>oX (hh.1.2.2.1 hX)))
   ·skip
    simp+contextual only [hX,↓XP,qp,XW1]
    intros
    refine QP ?_
    by_cases bX:o.text= []
    ·skip
     simp+contextual only [qg,n14,hX,eq_true bX,↓XP,qh,XW1]
     intros
     simp only [<-hod]
     exact go ⟨fun hh=>(hA hh).elim,fun _=>bA,fun hh=>(hX hh).elim,fun _=>bX⟩ _ ⟨rfl,rfl,rfl,rfl,trivial⟩
    ·skip
     simp+contextual only [qg,n14,hX,eq_false bX,↓XP,qh,XW1]
     intros
     exact hk _ (decide_eq_false (fun hh=>bX (hh.1.2.2.2 hX)))
  ·skip
   simp+contextual only [qg,n14,hA,eq_false bA,↓XP,qh,XW1]
   intros
   exact hk _ (decide_eq_false (fun hh=>bA (hh.1.2.1 hA)))
theorem v_3 {b4} (n14:b1≠b4) (hF:Fr 169 [(1,.ptr b1 0),(3,.str (uses o.k)),(4,.ptr b4 0)] F) (h:R (.bool (decide (pp o∧ib o∧bW o∧Wb o))) H):xcode Tryz.prog (Kr 14) F ((b4,AO.cells [.i 0,.i 0,.i 0])::(b1,AO.cells o.d)::H) (jX Tryz.prog [.tmp 2] H.length R):=by
 have hod:o.d= [.i o.k,.i o.on.o,.i o.on.s,.i o.on.i,.i o.to.o,.i o.to.s,.i o.to.i,.slc (j5 o.ids),.i o.n,.str o.name,.str o.text,.i o.a,.i o.b]:=rfl
 have hk:∀b,decide (pp o∧ib o∧bW o∧Wb o)=b->R (.bool b) H:=fun b hb=>hb▸h
 have go:pp o->∀F',Fr 169 [(1,.ptr b1 0),(3,.str (uses o.k)),(4,.ptr b4 0)] F'->xcode Tryz.prog (Kr 22) F' ((b4,AO.cells [.i 0,.i 0,.i 0])::(b1,AO.cells o.d)::H) (jX Tryz.prog [.tmp 2] H.length R):=fun h4 F' hF'=>v_2 n14 hF' (hk _ (by simp only [h4,true_and]))
 obtain ⟨z,rfl⟩:=hF.fl rfl
 try dsimp only [fl,zz,qa,qb] at*
 clear hF h
 simp+contextual only [↓U67.2.1.1,hod,↓XP,qp]
 intros
 refine GC ?_
 by_cases hN:(78:UInt8)∈uses o.k
 ·skip
  simp+contextual only [qg,n14,hN,↓XP,qh,XW1,qb]
  intros
  refine Al (o:=o) ?_
  by_cases oN:gp o
  ·skip
   simp+contextual only [oN,↓XP,qp,XW1]
   intros
   refine GC ?_
   simp+contextual only [hN,↓XP,qp,XW1]
   intros
   refine J5 ?_
   by_cases hI:(73:UInt8)∈uses o.k
   ·skip
    simp+contextual only [qg,n14,hI,↓XP,qh,XW1,qb]
    intros
    refine Zq (o:=o) ?_
    by_cases oI:Q3 o
    ·skip
     simp+contextual only [oI,↓XP,qp,XW1]
     intros
     refine J5 ?_
     simp+contextual only [hI,↓XP,qp,XW1]
     intros
     simp only [<-hod]
     exact go ⟨fun _=>oN,fun hh=>(hh hN).elim,fun _=>oI,fun hh=>(hh hI).elim⟩ _ ⟨rfl,rfl,rfl,rfl,trivial⟩
    ·skip
     simp+contextual only [oI,↓XP,qp,XW1]
     intros
     exact hk _ (decide_eq_false (fun hh=>oI (hh.1.2.2.1 hI)))
   ·skip
    simp+contextual only [hI,↓XP,qp,XW1]
    intros
    refine J5 ?_
    by_cases bI:o.ids= []
    ·skip
     simp+contextual only [qJ,qg,n14,hI,(eq_false (by simp [bI]):(0<(o.ids.length:Int))=False),↓XP,qh,XW1]
     intros
     simp only [<-hod]
     exact go ⟨fun _=>oN,fun hh=>(hh hN).elim,fun hh=>(hI hh).elim,fun _=>bI⟩ _ ⟨rfl,rfl,rfl,rfl,trivial⟩
    ·skip
     simp+contextual only [qJ,qg,n14,hI,(eq_true (by have:=List.length_pos_iff.2 bI;omega):(0<(o.ids.length:Int))=True),↓XP,qh,XW1]
     intros
     exact hk _ (decide_eq_false (fun hh=>bI (hh.1.2.2.2 hI)))
  ·skip
   simp+contextual only [oN,↓XP,qp,XW1]
   intros
   exact hk _ (decide_eq_false (fun hh=>oN (hh.1.1 hN)))
 ·skip
  simp+contextual only [hN,↓XP,qp,XW1]
  intros
  refine GC ?_
  by_cases bN:o.n=0
  ·skip
   simp+contextual only [qg,n14,hN,eq_true bN,↓XP,qh,XW1]
   intros
   refine J5 ?_
   by_cases hI:(73:UInt8)∈uses o.k
   ·skip
    simp+contextual only [qg,n14,hI,↓XP,qh,XW1,qb]
    intros
    refine Zq (o:=o) ?_
    by_cases oI:Q3 o
    ·skip
     simp+contextual only [oI,↓XP,qp,XW1]
     intros
     refine J5 ?_
     simp+contextual only [hI,↓XP,qp,XW1]
     intros
     simp only [<-hod]
     exact go ⟨fun hh=>(hN hh).elim,fun _=>bN,fun _=>oI,fun hh=>(hh hI).elim⟩ _ ⟨rfl,rfl,rfl,rfl,trivial⟩
    ·skip
     simp+contextual only [oI,↓XP,qp,XW1]
     intros
     exact hk _ (decide_eq_false (fun hh=>oI (hh.1.2.2.1 hI)))
   ·skip
    simp+contextual only [hI,↓XP,qp,XW1]
    intros
    refine J5 ?_
    by_cases bI:o.ids= []
    ·skip
     simp+contextual only [qJ,qg,n14,hI,(eq_false (by simp [bI]):(0<(o.ids.length:Int))=False),↓XP,qh,XW1]
     intros
     simp only [<-hod]
     exact go ⟨fun hh=>(hN hh).elim,fun _=>bN,fun hh=>(hI hh).elim,fun _=>bI⟩ _ ⟨rfl,rfl,rfl,rfl,trivial⟩
    ·skip
     simp+contextual only [qJ,qg,n14,hI,(eq_true (by have:=List.length_pos_iff.2 bI;omega):(0<(o.ids.length:Int))=True),↓XP,qh,XW1]
     intros
     exact hk _ (decide_eq_false (fun hh=>bI (hh.1.2.2.2 hI)))
  ·skip
   simp+contextual only [qg,n14,hN,eq_false bN,↓XP,qh,XW1]
   intros
   exact hk _ (decide_eq_false (fun hh=>bN (hh.1.2.1 hN)))
theorem v_4 {b4} (n14:b1≠b4) (hF:Fr 169 [(1,.ptr b1 0),(3,.str (uses o.k)),(4,.ptr b4 0)] F) (h:R (.bool (decide (su o∧pp o∧ib o∧bW o∧Wb o))) H):xcode Tryz.prog (Kr 6) F ((b4,AO.cells [.i 0,.i 0,.i 0])::(b1,AO.cells o.d)::H) (jX Tryz.prog [.tmp 2] H.length R):=by
 have hod:o.d= [.i o.k,.i o.on.o,.i o.on.s,.i o.on.i,.i o.to.o,.i o.to.s,.i o.to.i,.slc (j5 o.ids),.i o.n,.str o.name,.str o.text,.i o.a,.i o.b]:=rfl
 have hk:∀b,decide (su o∧pp o∧ib o∧bW o∧Wb o)=b->R (.bool b) H:=fun b hb=>hb▸h
 have go:su o->∀F',Fr 169 [(1,.ptr b1 0),(3,.str (uses o.k)),(4,.ptr b4 0)] F'->xcode Tryz.prog (Kr 14) F' ((b4,AO.cells [.i 0,.i 0,.i 0])::(b1,AO.cells o.d)::H) (jX Tryz.prog [.tmp 2] H.length R):=fun h4 F' hF'=>v_3 n14 hF' (hk _ (by simp only [h4,true_and]))
 obtain ⟨z,rfl⟩:=hF.fl rfl
 try dsimp only [fl,zz,qa,qb] at*
 clear hF h
 by_cases hu:uses o.k= []
 ·skip
  simp+contextual only [↓U67.2.1.2,hod,eq_true hu,↓XP,qp]
  intros
  exact hk _ (decide_eq_false (fun hh=>hh.1.1 hu))
 ·skip
  simp+contextual only [↓U67.2.1.2,hod,eq_false hu,↓XP,qp]
  intros
  intros
  refine ZK ?_
  by_cases hO:(79:UInt8)∈uses o.k
  ·skip
   simp+contextual only [qg,n14,hO,↓XP,qh,XW1,qb,qe]
   intros
   refine GS (x:=o.on) ?_
   by_cases oO:yI o.on
   ·skip
    simp+contextual only [oO,↓XP,qp,XW1]
    intros
    refine ZK ?_
    simp+contextual only [hO,↓XP,qp,XW1]
    intros
    refine QZ ?_
    by_cases hT:(84:UInt8)∈uses o.k
    ·skip
     simp+contextual only [qg,n14,hT,↓XP,qh,XW1,qb,qe]
     intros
     refine GS (x:=o.to) ?_
     by_cases oT:yI o.to
     ·skip
      simp+contextual only [oT,↓XP,qp,XW1]
      intros
      refine QZ ?_
      simp+contextual only [hT,↓XP,qp,XW1]
      intros
      simp only [<-hod]
      exact go ⟨hu,fun _=>oO,fun hh=>(hh hO).elim,fun _=>oT,fun hh=>(hh hT).elim⟩ _ ⟨rfl,rfl,rfl,rfl,trivial⟩
     ·skip
      simp+contextual only [oT,↓XP,qp,XW1]
      intros
      exact hk _ (decide_eq_false (fun hh=>oT (hh.1.2.2.2.1 hT)))
    ·skip
     simp+contextual only [hT,↓XP,qp,XW1]
     intros
     refine QZ ?_
     by_cases bT:o.to=Ja
     ·skip
      simp+contextual only [qg,n14,vZ,hT,eq_true bT,↓XP,qh,XW1,qb,qe]
      intros
      simp only [<-hod]
      exact go ⟨hu,fun _=>oO,fun hh=>(hh hO).elim,fun hh=>(hT hh).elim,fun _=>bT⟩ _ ⟨rfl,rfl,rfl,rfl,trivial⟩
     ·skip
      simp+contextual only [qg,n14,vZ,hT,eq_false bT,↓XP,qh,XW1,qb,qe]
      intros
      exact hk _ (decide_eq_false (fun hh=>bT (hh.1.2.2.2.2 hT)))
   ·skip
    simp+contextual only [oO,↓XP,qp,XW1]
    intros
    exact hk _ (decide_eq_false (fun hh=>oO (hh.1.2.1 hO)))
  ·skip
   simp+contextual only [hO,↓XP,qp,XW1]
   intros
   refine ZK ?_
   by_cases bO:o.on=Ja
   ·skip
    simp+contextual only [qg,n14,vZ,hO,eq_true bO,↓XP,qh,XW1,qb,qe]
    intros
    refine QZ ?_
    by_cases hT:(84:UInt8)∈uses o.k
    ·skip
     simp+contextual only [qg,n14,hT,↓XP,qh,XW1,qb,qe]
     intros
     refine GS (x:=o.to) ?_
     by_cases oT:yI o.to
     ·skip
      simp+contextual only [oT,↓XP,qp,XW1]
      intros
      refine QZ ?_
      simp+contextual only [hT,↓XP,qp,XW1]
      intros
      simp only [<-hod]
      exact go ⟨hu,fun hh=>(hO hh).elim,fun _=>bO,fun _=>oT,fun hh=>(hh hT).elim⟩ _ ⟨rfl,rfl,rfl,rfl,trivial⟩
     ·skip
      simp+contextual only [oT,↓XP,qp,XW1]
      intros
      exact hk _ (decide_eq_false (fun hh=>oT (hh.1.2.2.2.1 hT)))
    ·skip
     simp+contextual only [hT,↓XP,qp,XW1]
     intros
     refine QZ ?_
     by_cases bT:o.to=Ja
     ·skip
      simp+contextual only [qg,n14,vZ,hT,eq_true bT,↓XP,qh,XW1,qb,qe]
      intros
      simp only [<-hod]
      exact go ⟨hu,fun hh=>(hO hh).elim,fun _=>bO,fun hh=>(hT hh).elim,fun _=>bT⟩ _ ⟨rfl,rfl,rfl,rfl,trivial⟩
     ·skip
      simp+contextual only [qg,n14,vZ,hT,eq_false bT,↓XP,qh,XW1,qb,qe]
      intros
      exact hk _ (decide_eq_false (fun hh=>bT (hh.1.2.2.2.2 hT)))
   ·skip
    simp+contextual only [qg,n14,vZ,hO,eq_false bO,↓XP,qh,XW1,qb,qe]
    intros
    exact hk _ (decide_eq_false (fun hh=>bO (hh.1.2.2.1 hO)))
theorem Cq (h:R (.bool (decide (WO o))) H):ACall Tryz.prog 67 [.agg o.d] H R:=by
 refine b67 fun hf=>?_
 have hod:o.d= [.i o.k,.i o.on.o,.i o.on.s,.i o.on.i,.i o.to.o,.i o.to.s,.i o.to.i,.slc (j5 o.ids),.i o.n,.str o.name,.str o.text,.i o.a,.i o.b]:=rfl
 simp+contextual only [↓U67,↓U67.2.2.1,hod,↓XP,qh,qa]
 intro b1 h1 _
 refine my ?_
 simp+contextual only [↓XP,qh,XW1,qb]
 intro _ b4 hb
 obtain ⟨n14,h4⟩:=hb
 simp only [<-hod]
 exact v_4 n14 ⟨rfl,rfl,rfl,rfl,trivial⟩ h
end Go.Proofs.YtgopigkdcmhbbaaGreatDoor
end
section
namespace Go.Proofs.YtgopigkdcmhbbaaGreatDoor
open Go Go.Aw
def yR (p:Pt):Prop:=0<=p.o∧p.o<=7∧1<=p.s∧p.s<=16∧1<=p.day∧p.day<=1048576
instance (p:Pt):Decidable (yR p):=by unfold yR;exact inferInstance
def yJ (p:Pt) (i:Nat):Prop:=0<=(p.needs.getD i default).o∧(p.needs.getD i default).o<=7∧(p.needs.getD i default).o≠p.o∧1<=(p.needs.getD i default).s∧(p.needs.getD i default).s<=16∧(0<i->(p.needs.getD (i - 1) default).o<(p.needs.getD i default).o)
def ud (p:Pt):Prop:=∀i,i<p.needs.length->yJ p i
def gq (p:Pt):Prop:=∀o∈p.ops,WO o
def bare (p:Pt):Pt:={p with sl:= []}
open Classical in
noncomputable def jl (p:Pt):Int:=
 if ¬yR p then 5 else if 8<p.needs.length∨16<p.ops.length then 4 else if p.ops= [] then 1 else if ¬ud p then 1 else if ¬gq p then 1
 else if 6800<(jK (bare p)).length then 4 else 0
theorem Ze (h:Fit p):Fit (bare p):=⟨h.ops,h.needs,h.ids,h.name,h.text,by simp [bare]⟩
theorem Uf {R:D->AH->Prop} (hp:Fit p) (h:R (.i (jl p)) H):ACall Tryz.prog 32 [.agg p.d] H R:=by
 refine b32 fun hf=>?_
 have hbig:=qk
 have hd:p.d= [.i p.o,.i p.s,.i p.day,.slc (qv p.needs),.slc (qw p.ops),.str p.sl]:=rfl
 have hk:∀b,jl p=b->R (.i b) H:=fun b hb=>hb▸h
 clear h
 by_cases hh:¬yR p
 ·have h5:=hk 5 (by unfold jl;rw [if_pos hh])
  simp+contextual only [↓U3,hd,j9,qQ,↓U3,↓XP,qh,XW1,qa]
  intro b1 h1 _
  repeat' (first|apply And.intro|intro _)
  all_goals first
   |exact h5
   |(exfalso;unfold yR at hh;omega)
 ·obtain ⟨e1,e2,e3,e4,e5,e6⟩:=Classical.not_not.1 hh
  clear hh
  have hh:yR p:=⟨e1,e2,e3,e4,e5,e6⟩
  simp+contextual only [↓U3,hd,j9,qQ,(qy:(p.o<0)=False),(qy:(7<p.o)=False),(qy:(p.s<1)=False),(qy:(16<p.s)=False),(qy:(p.day<1)=False),(qy:(1048576<p.day)=False),↓U3,↓XP,qh,XW1,qa]
  intro b1 h1
  intros
  have k4:8<p.needs.length∨16<p.ops.length->R (.i 4) H:=fun hl=>hk 4 (by unfold jl;rw [if_neg (fun h=>h hh),if_pos hl])
  refine ⟨fun c=>k4 (by omega),fun c1 _=>⟨fun c=>k4 (by omega),fun c2=>⟨fun c=>hk 1 (by unfold jl;rw [if_neg (fun h=>h hh),if_neg (by omega),if_pos (List.eq_nil_of_length_eq_zero (by omega))]),fun c3=>?_⟩⟩⟩
  have hl:¬(8<p.needs.length∨16<p.ops.length):=by omega
  have hne:p.ops≠ []:=fun e=>c3 (by rw [e];rfl)
  have hk2:∀b,(open Classical in if ¬ud p then (1:Int) else if ¬gq p then 1 else if 6800<(jK (bare p)).length then 4 else 0)=b->R (.i b) H:=fun b hb=>hk b (by
   unfold jl
   rw [if_neg (fun h=>h hh),if_neg hl,if_neg hne]
   exact hb)
  clear hk k4
  simp only [<-hd]
  refine XW.loopK hmm (fun F H'=>∃(i:Nat),i<=p.needs.length∧(∀j,j<i->yJ p j)∧Fr 120 [(1,.ptr b1 0),(3,.i i)] F∧((b1,AO.cells p.d)::H)=H') (fun F H=>match F.getD 3 .any with| .int _ n'=>p.needs.length - n'.toNat|_=>0) ⟨0,by omega,by omega,⟨rfl,rfl,rfl,trivial⟩,rfl⟩ ?_
  rintro _ _ ⟨i,hi,hv,hF,rfl⟩ K hN hE hR
  obtain ⟨z,rfl⟩:=hF.fl rfl
  try dsimp only [fl,zz,qa,qb] at*
  clear hF
  by_cases hlt:i<p.needs.length
  ·have nx:yJ p i->∀F' H',back ((b1,AO.cells p.d)::H).length H'=((b1,AO.cells p.d)::H)->Fr 120 [(1,.ptr b1 0),(3,.i ((i+1:Nat):Int))] F'->K .normal F' H':=fun h1 F' H' hH hF'=>hN _ _ ⟨i+1,hlt,fun j hj=>by
     by_cases e:j=i
     ·rw [e];exact h1
     ·exact hv j (by omega),hF',hH.symm⟩ (by
    rw [Na,hF'.2.2.1]
    simp only [Nc,Nd,Ng]
    omega)
   have hno:¬yJ p i->R (.i 1) H:=fun h1=>hk2 1 (by rw [if_pos (fun h=>h1 (h i hlt))])
   clear hN hE
   have q1:=wM hlt
   have q0:0<i->(qv p.needs).getD (i - 1) []=(p.needs.getD (i - 1) default).d:=fun h=>wM (by omega)
   unfold yJ at nx hno
   generalize p.needs.getD i default=r at q1 nx hno
   generalize p.needs.getD (i - 1) default=t at q0 nx hno
   have hr:r.d= [.i r.o,.i r.s]:=rfl
   have ht:t.d= [.i t.o,.i t.s]:=rfl
   have w1:0<i->IntKind.i64.wrap ((i:Int) - 1)=((i - 1:Nat):Int):=fun h=>by rw [qi (by omega) (by omega)];omega
   have hrr:¬(0<=r.o∧r.o<=7∧r.o≠p.o∧1<=r.s∧r.s<=16∧(0<i->t.o<r.o))->∀F' H',(jX Tryz.prog [.tmp 2] H.length R) .ret F' H'->K .ret F' H':=fun _ F' H' h=>hR _ _ h
   by_cases c1:r.o<0
   ·simp+contextual only [hd,j9,q1,hr,(eq_true c1),↓U3,↓XP,qh,XW1,qb]
    refine fun _=>⟨fun _ b4 hb _=>?_,fun hge=>absurd (by omega) hge⟩
    intros
    refine hR _ _ ?_
    simp+contextual only [↓XP,qp]
    exact hno (by omega)
   by_cases c2:7<r.o
   ·simp+contextual only [hd,j9,q1,hr,(eq_false c1),(eq_true c2),↓U3,↓XP,qh,XW1,qb]
    refine fun _=>⟨fun _ b4 hb=>?_,fun hge=>absurd (by omega) hge⟩
    intros
    refine hR _ _ ?_
    simp+contextual only [↓XP,qp]
    exact hno (by omega)
   by_cases c3:r.o=p.o
   ·simp+contextual only [hd,j9,qg,q1,hr,(eq_false c1),(eq_false c2),(eq_true c3),↓U3,↓XP,qh,XW1,qb]
    refine fun _=>⟨fun _ b4 hb=>?_,fun hge=>absurd (by omega) hge⟩
    intros
    refine hR _ _ ?_
    simp+contextual only [↓XP,qp]
    exact hno (by omega)
   by_cases c4:r.s<1
   ·simp+contextual only [hd,j9,qg,q1,hr,(eq_false c1),(eq_false c2),(eq_false c3),(eq_true c4),↓U3,↓XP,qh,XW1,qb]
    refine fun _=>⟨fun _ b4 hb=>?_,fun hge=>absurd (by omega) hge⟩
    intros
    refine hR _ _ ?_
    simp+contextual only [↓XP,qp]
    exact hno (by omega)
   by_cases c5:16<r.s
   ·simp+contextual only [hd,j9,qg,q1,hr,(eq_false c1),(eq_false c2),(eq_false c3),(eq_false c4),(eq_true c5),↓U3,↓XP,qh,XW1,qb]
    refine fun _=>⟨fun _ b4 hb=>?_,fun hge=>absurd (by omega) hge⟩
    intros
    refine hR _ _ ?_
    simp+contextual only [↓XP,qp]
    exact hno (by omega)
   by_cases hi0:0<i
   ·have q0':=q0 hi0
    have w1':=w1 hi0
    by_cases c6:r.o<=t.o
    ·simp+contextual only [hd,j9,qg,q1,hr,(eq_false c1),(eq_false c2),(eq_false c3),(eq_false c4),(eq_false c5),q0',ht,w1',(qo:((0:Int)<(i:Int))=True),(eq_true c6),↓U3,↓XP,qh,XW1,qb,qe]
     refine fun _=>⟨fun _ b4 hb=>?_,fun hge=>absurd (by omega) hge⟩
     obtain ⟨n14,h4⟩:=hb
     intros
     refine ⟨by omega,fun _=>hR _ _ ?_⟩
     simp+contextual only [↓XP,qp]
     exact hno (by omega)
    ·simp+contextual only [hd,j9,qg,q1,hr,qj (show i<=big by omega),(eq_false c1),(eq_false c2),(eq_false c3),(eq_false c4),(eq_false c5),q0',ht,w1',(qo:((0:Int)<(i:Int))=True),(eq_false c6),↓U3,↓XP,qh,XW1,qb,qe]
     refine fun _=>⟨fun _ b4 hb=>?_,fun hge=>absurd (by omega) hge⟩
     obtain ⟨n14,h4⟩:=hb
     intros
     exact ⟨by omega,fun _=>nx (by omega) _ _ (kK rfl) ⟨rfl,rfl,rfl,trivial⟩⟩
   ·simp+contextual only [hd,j9,qg,q1,hr,qj (show i<=big by omega),(eq_false c1),(eq_false c2),(eq_false c3),(eq_false c4),(eq_false c5),(qy:((0:Int)<(i:Int))=False),↓U3,↓XP,qh,XW1,qb]
    refine fun _=>⟨fun _ b4 hb=>?_,fun hge=>absurd (by omega) hge⟩
    intros
    exact nx (by omega) _ _ (kK rfl) ⟨rfl,rfl,rfl,trivial⟩
  ·have hik:i=p.needs.length:=by omega
   subst hik
   clear hN
   have hon:ud p:=hv
   have hk3:∀b,(open Classical in if ¬gq p then (1:Int) else if 6800<(jK (bare p)).length then 4 else 0)=b->R (.i b) H:=fun b hb=>hk2 b (by rw [if_neg (fun h=>h hon)];exact hb)
   clear hk2 hv
   simp+contextual only [hd,j9,↓U3,↓XP,qh,XW1]
   refine fun _=>hE _ _ _ ?_
   clear hE hR
   simp+contextual only [↓U3,↓XP,qp,XW1]
   simp only [<-hd]
   refine XW.loopK hmm (fun F H'=>∃(i:Nat),i<=p.ops.length∧(∀o∈p.ops.take i,WO o)∧Fr 120 [(1,.ptr b1 0),(5,.i i)] F∧((b1,AO.cells p.d)::H)=H') (fun F H=>match F.getD 5 .any with| .int _ n'=>p.ops.length - n'.toNat|_=>0) ⟨0,by omega,by simp,⟨rfl,rfl,rfl,trivial⟩,rfl⟩ ?_
   rintro _ _ ⟨i,hi,hv,hF,rfl⟩ K hN hE hR
   obtain ⟨z,rfl⟩:=hF.fl rfl
   try dsimp only [fl,zz,qa,qb] at*
   clear hF
   by_cases hlt:i<p.ops.length
   ·have nx:WO (p.ops.getD i default)->∀F',Fr 120 [(1,.ptr b1 0),(5,.i ((i+1:Nat):Int))] F'->K .normal F' ((b1,AO.cells p.d)::H):=fun h1 F' hF'=>hN _ _ ⟨i+1,hlt,fun o ho=>by
      rw [List.take_add_one] at ho
      rcases List.mem_append.1 ho with ho|ho
      ·exact hv o ho
      ·simp [hlt] at ho
       have:o=p.ops.getD i default:=by simp [hlt,ho]
       rw [this];exact h1,hF',(qz rfl).symm⟩ (by
     rw [Na,hF'.2.2.1]
     simp only [Nc,Nd,Ng]
     omega)
    have hm:p.ops.getD i default∈p.ops:=by rw [jB hlt];exact List.getElem_mem hlt
    have hno:¬WO (p.ops.getD i default)->R (.i 1) H:=fun h1=>hk3 1 (by rw [if_pos (fun h=>h1 (h _ hm))])
    clear hN hE hk3
    have q1:=kO hlt
    generalize p.ops.getD i default=o at q1 nx hno
    have hod:o.d= [.i o.k,.i o.on.o,.i o.on.s,.i o.on.i,.i o.to.o,.i o.to.s,.i o.to.i,.slc (j5 o.ids),.i o.n,.str o.name,.str o.text,.i o.a,.i o.b]:=rfl
    simp+contextual only [hd,qQ,q1,hod,↓U3,↓XP,qh,XW1,qb]
    refine fun _=>⟨fun _=>Cq (o:=o) ?_,fun hge=>absurd (by omega) hge⟩
    by_cases ho:WO o
    ·simp+contextual only [ho,qj (show i<=big by omega),↓U3,↓XP,qp,XW1]
     simp only [<-hd]
     exact nx ho _ ⟨rfl,rfl,rfl,trivial⟩
    ·simp+contextual only [ho,↓XP,qp,XW1]
     refine hR _ _ ?_
     simp+contextual only [↓XP,qp]
     exact hno ho
   ·have hik:i=p.ops.length:=by omega
    subst hik
    clear hN
    rw [List.take_length] at hv
    have hoo:gq p:=hv
    simp+contextual only [hd,qQ,↓U3,↓XP,qh,XW1]
    refine fun _=>hE _ _ _ ?_
    clear hE hR
    have hbd:(bare p).d= [.i p.o,.i p.s,.i p.day,.slc (qv p.needs),.slc (qw p.ops),.str []]:=rfl
    simp+contextual only [↓U3,↓XP,qh,XW1,qb]
    refine eM (p:=bare p) (Ze hp) fun _=>?_
    by_cases h68:6800<(jK (bare p)).length
    ·simp+contextual only [(qo:((6800:Int)<((jK (bare p)).length:Int))=True),↓XP,qh,XW1]
     exact fun _=>hk3 4 (by rw [if_neg (fun h=>h hoo),if_pos h68])
    ·simp+contextual only [(qy:((6800:Int)<((jK (bare p)).length:Int))=False),↓XP,qh,XW1]
     exact fun _=>hk3 0 (by rw [if_neg (fun h=>h hoo),if_neg h68])
end Go.Proofs.YtgopigkdcmhbbaaGreatDoor
end
section
namespace Go.Proofs.YtgopigkdcmhbbaaGreatDoor
open Go Go.Aw
variable {R:D->AH->Prop}
theorem wn (h:R (.bool (decide (low<=n∧n<=high))) H):ACall Tryz.prog 44 [.i n,.i low,.i high] H R:=by
 refine b44 fun hf=>?_
 have hk:∀c,decide (low<=n∧n<=high)=c->R (.bool c) H:=fun b hb=>hb▸h
 simp+contextual only [↓U44,↓U44.1,↓XP,qp,qa,qb]
 repeat' (first|apply And.intro|intro _)
 all_goals first
  |exact hk _ (decide_eq_true (by omega))
  |exact hk _ (decide_eq_false (by omega))
  |exact hk _ (decide_eq_decide.2 (by omega))
  |skip
def zU (o s:Int):Prop:=0<=o∧o<=7∧1<=s∧s<=16
instance (o s:Int):Decidable (zU o s):=by unfold zU;exact inferInstance
theorem gE (h:R (.bool (decide (zU o s))) H):ACall Tryz.prog 43 [.i o,.i s] H R:=by
 refine b43 fun hf=>?_
 have hk:∀c,decide (zU o s)=c->R (.bool c) H:=fun b hb=>hb▸h
 simp+contextual only [↓U43,↓U43.1,↓XP,qp,qa,qb]
 refine wn ?_
 by_cases h1:0<=o∧o<=7
 ·simp+contextual only [eq_true h1,↓XP,qp,XW1]
  refine wn ?_
  simp+contextual only [↓XP,qp,XW1]
  exact hk _ (decide_eq_decide.2 (by unfold zU;omega))
 ·simp+contextual only [eq_false h1,↓XP,qp,XW1]
  exact hk _ (decide_eq_false (by unfold zU;omega))
theorem aR (h:R (.bool (decide (yI x))) H):ACall Tryz.prog 90 [.agg x.d] H R:=by
 refine b90 fun hf=>?_
 have hd:x.d= [.i x.o,.i x.s,.i x.i]:=rfl
 have hk:∀b,decide (yI x)=b->R (.bool b) H:=fun b hb=>hb▸h
 simp+contextual only [↓U90,hd,↓U90.1,↓XP,qh,qa]
 refine fun b1 h1 _ _=>gE ?_
 by_cases h1:zU x.o x.s
 ·simp+contextual only [eq_true h1,↓XP,qh,XW1]
  refine fun _=>wn ?_
  simp+contextual only [↓XP,qp,XW1]
  exact hk _ (decide_eq_decide.2 (by unfold zU at h1;unfold yI;omega))
 ·simp+contextual only [eq_false h1,↓XP,qp,XW1]
  exact hk _ (decide_eq_false (by unfold zU at h1;unfold yI;omega))
theorem nB (h:R (.bool (decide (yi a b))) H):ACall Tryz.prog 91 [.agg [.i a,.i b]] H R:=by
 refine b91 fun hf=>?_
 have hk:∀c,decide (yi a b)=c->R (.bool c) H:=fun b hb=>hb▸h
 simp+contextual only [↓U91,↓U91.1,↓XP,qh,XW1,qa]
 intro b1 h1
 repeat' (first|apply And.intro|intro _)
 all_goals first
  |exact hk _ (decide_eq_true (by unfold yi;omega))
  |exact hk _ (decide_eq_false (by unfold yi;omega))
  |exact hk _ (decide_eq_decide.2 (by unfold yi;omega))
  |skip
end Go.Proofs.YtgopigkdcmhbbaaGreatDoor
end
