/- Joined: C13, C14, D1, C16, C17, C18, C19, C20, C21, C23, D2, E5, E6, F2, G1, G2, G3, G4, L0, H1, H2, H3, H4, H5, H6, J3, J5, J6, R0, P0, R0p, P1, P2, P3, P4. -/
import Derived.Test.YteogfjpaljbkoaaGreatK3
import Derived.Laws.BitsLemmas
import Derived.Test.YteogfjpaljbkoaaGreatRows
set_option linter.unusedVariables false
set_option linter.unusedSimpArgs false
set_option maxRecDepth 100000
set_option maxHeartbeats 16000000
namespace Go.Proofs.YteogfjpaljbkoaaGreat
open Go.RowKit
section
open Go.Proofs.Tryz (prog)
attribute [local irreducible] CallV RoundV
def twoB (n:Nat):List UInt8:=[UInt8.ofNat (n / 256),UInt8.ofNat n]
def twoRows (n:Nat):Nat→List (List V)
 | 0=>[[.int .u8 0],[.int .u8 0]]
 | 1=>[[.int .u8 0],[cB (UInt8.ofNat n)]]
 | _=>[[cB (UInt8.ofNat (n / 256))],[cB (UInt8.ofNat n)]]
def shrI (n:Nat):Nat→Int
 | 0=>n
 | 1=>(n / 256:Nat)
 | _=>(n / 65536:Nat)
theorem twoRows_free (n:Nat) (k:Nat):∀r∈twoRows n k,∀v∈r,Free v:=by
 intro r hr v hv
 unfold twoRows at hr
 split at hr<;>(simp at hr;rcases hr with rfl|rfl<;>(simp at hv;subst hv;exact .int))
theorem shI_step (n:Nat) {m:Nat} (h:m=n / 256) (hn:n < 65536):IntKind.i64.wrap ((IntKind.u64.wrap (n:Int)).fdiv (2 ^ (min (Int.toNat 8) IntKind.u64.bits)))=(m:Int):=by
 have h1:IntKind.u64.wrap (n:Int)=n:=by rw[wrapu64];omega
 have e:(2:Int) ^ (min (Int.toNat 8) IntKind.u64.bits)=256:=by decide
 rw[h1,e,h,Int.fdiv_eq_ediv_of_nonneg _ (by decide),wrap64 (by omega) (by omega)]
 omega
theorem highI_ok (n:Nat) (hn:n < 65536):PCon prog 156 [cI n,.int .i64 2] (encB true (twoB n)):=by
 refine callV_of (fn:=Go.Proofs.Tryz.f156) (body:=_) tab_ok mixed rfl rfl (by decide) (by simp[Go.Proofs.Tryz.f156]) ?_
 conv=>whnf
 refine⟨⟨by omega,by omega,by simp[tab,tabOf,nth],by omega⟩,?_⟩
 conv=>whnf
 refine callV_of (fn:=Go.Proofs.Tryz.f158) (body:=_) tab_ok mixed rfl rfl (by decide) (by simp[Go.Proofs.Tryz.f158]) ?_
 conv=>whnf
 refine⟨_,_,_,Ends.here,?_⟩
 conv=>whnf
 refine callV_loop [(2,.ptr 0 0),(5,.ptr 2 0)] ⟨rfl,rfl,trivial⟩ fun asg' body' hasg hbody=>?_
 refine callV_of (fn:=Go.Proofs.Tryz.f201) (body:=_) tab_ok mixed rfl rfl (by decide) (by simp[Go.Proofs.Tryz.f201]) ?_
 conv=>whnf
 intro _
 conv=>whnf
 refine vcg_loop tab_ok mixed (fun k:{k:Nat // k≤2}=>⟨[(0,.yld 4),(1,.ptr 3 0),(3,.int .i64 (1 - k.1))],[(4,some (.loop 23 [(2,.ptr 0 0),(5,.ptr 2 0)] [11,12] asg' body' .ready none)),(0,some (.var true 3 [.int .i64 (shrI n k.1)])),(1,some (.arr true true 5 1 (twoRows n k.1))),(2,some (.var true 127 [.osl 1 1 0 2])),(3,some (.var true 127 [.osl 1 1 0 2]))],5⟩) (fun k=>2 - k.1) ⟨0,by omega⟩ ?_ (fun k=>?_)
 ·refine Wk.of id [] ⟨?_,?_,?_,trivial⟩ (LeH.of ⟨⟨by omega,.inl ⟨by simp,_,rfl,?_⟩⟩,⟨by omega,.inl ⟨by simp,_,rfl,?_⟩⟩,⟨by omega,.inl ⟨by simp,_,rfl,?_⟩⟩,⟨by omega,.inl ⟨by simp,_,rfl,?_⟩⟩,⟨by omega,.inl ⟨by simp,_,rfl,?_⟩⟩,trivial⟩ (fun _ _ _ _ h=>h) (fun _ _=>rfl) (by omega) (by simp))
  ·exact .yld rfl (by omega)
  ·exact .ptr rfl (by omega)
  ·exact .int_of rfl
  ·exact⟨rfl,rfl,rfl,rfl,rfl,rfl,.ptr rfl (by omega),.ptr rfl (by omega),trivial⟩
  ·exact⟨id,rfl,.int_of rfl,trivial⟩
  ·exact LeB.free (blk:=.arr true true 5 1 (twoRows n 0)) (twoRows_free n 0)
  ·exact⟨id,rfl,.osl_of rfl (by omega) rfl,trivial⟩
  ·exact⟨id,rfl,.osl_of rfl (by omega) rfl,trivial⟩
 obtain⟨k,hk⟩:=k
 rcases k with _|_|_|k
 case succ.succ.succ=>omega
 case succ.succ.zero=>
  conv=>whnf
  refine⟨_,_,_,Ends.here,?_⟩
  conv=>whnf
  refine Ends.pure [1] ?_ ?_
  ·refine LeV.freeze_of (by simp) rfl (by simp[twoRows]) (twoRows_free n 2) ?_
   simp[twoRows,twoB]
  ·intro z hz
   obtain rfl:=List.mem_singleton.1 hz
   exact ne_none_of rfl
 ·conv=>whnf
  refine⟨rfl,⟨by simp,by simp⟩,?_⟩
  conv=>whnf
  refine⟨rfl,_,rfl,?_⟩
  conv=>whnf
  subst hasg hbody
  refine roundV_of tab_ok mixed rfl (by simp) (show 4 < 5 by omega) ?_
  conv=>whnf
  refine⟨rfl,?_⟩
  conv=>whnf
  refine⟨rfl,⟨by simp,by simp⟩,?_⟩
  conv=>whnf
  refine⟨rfl,_,rfl,?_⟩
  conv=>whnf
  refine⟨by decide,?_⟩
  conv=>whnf
  refine⟨rfl,?_⟩
  conv=>whnf
  refine⟨⟨1,by omega⟩,Wk.of id [] ⟨.yld rfl (by omega),.ptr rfl (by omega),.int_of ?_,trivial⟩ (LeH.of ⟨⟨by omega,.inl ⟨by simp,_,rfl,rfl,rfl,rfl,rfl,rfl,rfl,.ptr rfl (by omega),.ptr rfl (by omega),trivial⟩⟩,⟨by omega,.inl ⟨by simp,_,rfl,id,rfl,.int_of ?_,trivial⟩⟩,⟨by omega,.inl ⟨by simp,_,rfl,LeB.eq_of ?_ (twoRows_free n 1)⟩⟩,⟨by omega,.inl ⟨by simp,_,rfl,id,rfl,.osl_of rfl (by omega) rfl,trivial⟩⟩,⟨by omega,.inl ⟨by simp,_,rfl,id,rfl,.osl_of rfl (by omega) rfl,trivial⟩⟩,trivial⟩ (fun _ _ _ _ h=>h) (fun _ _=>rfl) (by omega) (by simp)),?_⟩
  ·simp[wrap64']
  ·exact shI_step _ (by simp[Nat.div_div_eq_div_mul]) (by omega)
  ·simp[twoRows,shrI,cB,wrap8]
  ·simp
 ·conv=>whnf
  refine⟨rfl,⟨by simp,by simp⟩,?_⟩
  conv=>whnf
  refine⟨rfl,_,rfl,?_⟩
  conv=>whnf
  subst hasg hbody
  refine roundV_of tab_ok mixed rfl (by simp) (show 4 < 5 by omega) ?_
  conv=>whnf
  refine⟨rfl,?_⟩
  conv=>whnf
  refine⟨rfl,⟨by simp,by simp⟩,?_⟩
  conv=>whnf
  refine⟨rfl,_,rfl,?_⟩
  conv=>whnf
  refine⟨by decide,?_⟩
  conv=>whnf
  refine⟨rfl,?_⟩
  conv=>whnf
  refine⟨⟨2,by omega⟩,Wk.of id [] ⟨.yld rfl (by omega),.ptr rfl (by omega),.int_of ?_,trivial⟩ (LeH.of ⟨⟨by omega,.inl ⟨by simp,_,rfl,rfl,rfl,rfl,rfl,rfl,rfl,.ptr rfl (by omega),.ptr rfl (by omega),trivial⟩⟩,⟨by omega,.inl ⟨by simp,_,rfl,id,rfl,.int_of ?_,trivial⟩⟩,⟨by omega,.inl ⟨by simp,_,rfl,LeB.eq_of ?_ (twoRows_free n 2)⟩⟩,⟨by omega,.inl ⟨by simp,_,rfl,id,rfl,.osl_of rfl (by omega) rfl,trivial⟩⟩,⟨by omega,.inl ⟨by simp,_,rfl,id,rfl,.osl_of rfl (by omega) rfl,trivial⟩⟩,trivial⟩ (fun _ _ _ _ h=>h) (fun _ _=>rfl) (by omega) (by simp)),?_⟩
  ·simp[wrap64']
  ·exact shI_step _ (by simp[Nat.div_div_eq_div_mul]) (by omega)
  ·simp[twoRows,shrI,cB,wrap8]
  ·simp
end
section
open Go.Proofs.Tryz (prog)
attribute [local irreducible] CallV RoundV
theorem LeV.snil_sl {h:Heap} {nx nx':Nat} {ρ:Nat→Nat} {Z:List Nat} {fr:Bool} {sz:Nat}:LeV h nx ρ nx' Z .snil (.sl fr sz []):=fun G w u hr hv=>by
 cases hv with
 | snil A=>exact .sl fr sz [] A 0 (fun _=>undef) (Nat.le_refl _) (Nat.zero_le _) (fun h=>absurd rfl h) (by simp) (by simp) (by simp)
def attrX (f c:UInt8) (v:List UInt8):List UInt8:=(if 255 < v.length then [f + 16,c]++ twoB v.length else [f,c,UInt8.ofNat v.length])++ v
def part (a:Attrs):Nat→List UInt8
 | 0=>attrX 64 1 [a.origin]
 | 1=>attrX 64 2 (pathB a.path)
 | 2=>attrX 64 3 (fourB a.next)
 | 3=>if a.hasMed then attrX 128 4 (fourB a.med)else []
 | 4=>if a.hasPref then attrX 64 5 (fourB a.pref)else []
 | _=>if 0 < a.tags.length then attrX 192 8 (allB a.tags)else []
def rawP (a:Attrs):Nat→List UInt8
 | 0=>[]
 | k + 1=>rawP a k ++ part a k
def rawE (a:Attrs):V:=.tup [encB true (if rightA a then rawP a 6 else []),.int .i64 (checkA a)]
theorem rawE_no {a:Attrs} (h:rightA a=false):rawE a=.tup [encB true [],.int .i64 2]:=by simp[rawE,h,checkA]
theorem rawE_yes {a:Attrs} (h:rightA a=true):rawE a=.tup [encB true (rawP a 6),.int .i64 0]:=by simp[rawE,h,checkA]
theorem raw_ok (fr:Bool) (a:Attrs) (hf:fewA a=true):PCon prog 114 [encA fr a] (rawE a):=by
 obtain⟨hp,hpl,htl⟩:=fewA_out hf
 have cell:∀{fr0:Bool} {x:Attrs},FreeB (.var true 35 (cellsA fr0 x)):=fun {fr0 x}=>cellsA_free fr0 x
 have f4:∀x,(fourB x).length=4:=fun _=>rfl
 have hbd:∀n:Nat,n≤20000→n * (tab 5).bytes≤140737488355328∧n≤140737488355328:=fun n h=>⟨by simp[tab,tabOf,nth];omega,by omega⟩
 have hpb:=pathB_len hp
 have ax:∀{f c:UInt8} {v:List UInt8},(attrX f c v).length≤4 + v.length:=fun {f c v}=>by unfold attrX;split<;>simp[twoB]<;>omega
 have h4:∀{b:Bool} {f c:UInt8} {x:UInt32},(if b=true then attrX f c (fourB x)else []).length≤8:=fun {b f c x}=>by
  have:=ax (f:=f) (c:=c) (v:=fourB x)
  rw[f4]at this
  split<;>first|omega|simp
 have hT:(if 0 < a.tags.length then attrX 192 8 (allB a.tags)else []).length≤4 + 4 * a.tags.length:=by
  have:=ax (f:=192) (c:=8) (v:=allB a.tags)
  rw[allB_len]at this
  split<;>first|omega|simp
 have p0:(rawP a 0).length=0:=rfl
 have p1:(rawP a 1).length=(rawP a 0).length + (attrX 64 1 [a.origin]).length:=by show(rawP a 0 ++ part a 0).length=_;rw[List.length_append];rfl
 have p2:(rawP a 2).length=(rawP a 1).length + (attrX 64 2 (pathB a.path)).length:=by show(rawP a 1 ++ part a 1).length=_;rw[List.length_append];rfl
 have p3:(rawP a 3).length=(rawP a 2).length + (attrX 64 3 (fourB a.next)).length:=by show(rawP a 2 ++ part a 2).length=_;rw[List.length_append];rfl
 have p4:(rawP a 4).length=(rawP a 3).length + (if a.hasMed then attrX 128 4 (fourB a.med)else []).length:=by show(rawP a 3 ++ part a 3).length=_;rw[List.length_append];rfl
 have p5:(rawP a 5).length=(rawP a 4).length + (if a.hasPref then attrX 64 5 (fourB a.pref)else []).length:=by show(rawP a 4 ++ part a 4).length=_;rw[List.length_append];rfl
 have a1:=ax (f:=64) (c:=1) (v:=[a.origin])
 have a2:=ax (f:=64) (c:=2) (v:=pathB a.path)
 have a3:=ax (f:=64) (c:=3) (v:=fourB a.next)
 rw[f4]at a3
 have a4:=h4 (b:=a.hasMed) (f:=128) (c:=4) (x:=a.med)
 have a5:=h4 (b:=a.hasPref) (f:=64) (c:=5) (x:=a.pref)
 have hP:∀k,k≤5→(rawP a k).length≤5000:=by
  intro k hk
  simp only[List.length_cons,List.length_nil]at a1
  rcases k with _|_|_|_|_|_|k<;>first|omega|(simp only[Nat.zero_add,Nat.reduceAdd];omega)
 have or80:bits BinOp.or IntKind.u8 64 16=80:=by decide
 have hP0:=hP 0 (by omega)
 have hP1:=hP 1 (by omega)
 have hP2:=hP 2 (by omega)
 have hP3:=hP 3 (by omega)
 have hP4:=hP 4 (by omega)
 have hP5:=hP 5 (by omega)
 clear p0 p1 p2 p3 p4 p5 a1 a2 a3 a4 a5 hT h4 hP
 cases hright:rightA a with
 | false=>
  rw[rawE_no hright]
  refine callV_of (fn:=Go.Proofs.Tryz.f114) (body:=_) tab_ok mixed rfl rfl (by decide) (by simp[Go.Proofs.Tryz.f114]) ?_
  conv=>whnf
  refine callV_pure (check_ok fr a) ⟨.free (encA_free _ _),trivial⟩ ?_
  rw[checkA_no hright]
  conv=>whnf
  exact Ends.pure [] (.tupL ⟨.snil_sl,.int_of rfl,trivial⟩) (by simp)
 | true=>
  rw[rawE_yes hright]
  refine callV_of (fn:=Go.Proofs.Tryz.f114) (body:=_) tab_ok mixed rfl rfl (by decide) (by simp[Go.Proofs.Tryz.f114]) ?_
  conv=>whnf
  refine callV_pure (check_ok fr a) ⟨.free (encA_free _ _),trivial⟩ ?_
  rw[checkA_yes hright]
  conv=>whnf
  refine callV_pure attributes_ok trivial ?_
  conv=>whnf
  refine callV_loop [(1,.ptr 0 0),(2,.ptr 1 0)] ⟨rfl,rfl,trivial⟩ fun asg' body' hasg hbody=>?_
  refine callV_of (fn:=Go.Proofs.Tryz.f231) (body:=_) tab_ok mixed rfl rfl (by decide) (by simp[Go.Proofs.Tryz.f231]) ?_
  conv=>whnf
  intro _
  conv=>whnf
  refine vcg_loop tab_ok mixed (fun k:{k:Nat // k≤6}=>⟨[(0,.yld 2),(5,.sl true 5 attrRows),(6,cI 6),(7,cI k.1)],[(2,some (.loop 52 [(1,.ptr 0 0),(2,.ptr 1 0)] [13] asg' body' .ready none)),(0,some (.var true 35 (cellsA fr a))),(1,some (.var true 127 [.osl 3 1 0 (rawP a k.1).length])),(3,some (.arr true false 5 1 (rowsB (rawP a k.1))))],4⟩) (fun k=>6 - k.1) ⟨0,by omega⟩ ?_ (fun k=>?_)
  ·refine Wk.of id [] ⟨.yld rfl (by omega),?_,.int_of rfl,.int_of rfl,trivial⟩ (LeH.of ⟨⟨by omega,.inl ⟨by simp,_,rfl,rfl,rfl,rfl,rfl,rfl,rfl,.ptr rfl (by omega),.ptr rfl (by omega),trivial⟩⟩,⟨by omega,.inl ⟨by simp,_,rfl,LeB.free cell⟩⟩,⟨by omega,.inl ⟨by simp,_,rfl,id,rfl,.osl0,trivial⟩⟩,⟨by omega,.inr ⟨by simp,_,_,_,_,rfl⟩⟩,trivial⟩ (fun _ _ _ _ h=>h) (fun _ _=>rfl) (by omega) (by simp))
   exact .free (.sl attrRows_free)
  obtain⟨k,hk⟩:=k
  rcases k with _|_|_|_|_|_|_|k
  case succ.succ.succ.succ.succ.succ.succ=>omega
  case succ.succ.succ.succ.succ.succ.zero=>
   conv=>whnf
   refine⟨_,_,_,Ends.here,?_⟩
   conv=>whnf
   exact Ends.pure [3] (.tupL ⟨.freezeB (bs:=rawP a 6) (by simp) rfl rfl rfl,.int_of rfl,trivial⟩) (one_none rfl)
  case zero=>
   conv=>whnf
   refine⟨rfl,_,⟨by simp,rfl⟩,?_⟩
   conv=>whnf
   subst hasg hbody
   refine roundV_of tab_ok mixed rfl (by simp) (show 2 < 5 by omega) ?_
   conv=>whnf
   refine⟨rfl,?_⟩
   conv=>whnf
   refine callV_pure (always_ok fr a) ⟨.free (encA_free _ _),trivial⟩ ?_
   conv=>whnf
   conv=>whnf
   refine callV_pure (vOrigin_ok fr a) ⟨.free (encA_free _ _),trivial⟩ ?_
   conv=>whnf
   refine fun(_:gd none _)=>?_
   conv=>whnf
   refine fun(_:gd none _)=>?_
   conv=>whnf
   refine⟨rfl,by simp,⟨rfl,rfl,rfl,rfl,by decide⟩,by simp,hbd _ (by simp;omega),?_⟩
   conv=>whnf
   refine⟨⟨rfl,rfl,rfl,rfl,by decide⟩,by simp,hbd _ (by simp[rawP];try omega),?_⟩
   conv=>whnf
   refine⟨rfl,?_⟩
   conv=>whnf
   refine⟨⟨1,by omega⟩,Wk.of (renOf [(3,8)]) [] ⟨.yld rfl (by omega),?_,.int_of rfl,.int_of ?_,trivial⟩ (LeH.of ⟨⟨by omega,.inl ⟨by simp,_,rfl,rfl,rfl,rfl,rfl,rfl,rfl,.ptr rfl (by omega),.ptr rfl (by omega),trivial⟩⟩,⟨by omega,.inl ⟨by simp,_,rfl,LeB.free cell⟩⟩,⟨by omega,.inl ⟨by simp,_,rfl,id,rfl,.osl_of rfl (by omega) ?_,trivial⟩⟩,⟨by omega,.inl ⟨by simp,_,rfl,LeB.eq_of ?_ (rowsB_free _)⟩⟩,trivial⟩ (show ∀b∈[2,0,1,3],∀b'∈[2,0,1,3],renOf [(3,8)] b=renOf [(3,8)] b'→b=b' by decide) (show ∀b,b < 3→renOf [(3,8)] b=b by decide) (by omega) (by simp)),by simp⟩
   ·exact .free (.sl attrRows_free)
   ·simp[wrap64']
   ·(simp[rawP,part,attrX,cell,rawP,Nat.add_assoc];try omega)
   ·simp[rawP,part,attrX,rowsB,u8_nat,wrap8,cell,rawP,Nat.add_assoc,List.take_of_length_le]
  case succ.succ.zero=>
   conv=>whnf
   refine⟨rfl,_,⟨by simp,rfl⟩,?_⟩
   conv=>whnf
   subst hasg hbody
   refine roundV_of tab_ok mixed rfl (by simp) (show 2 < 5 by omega) ?_
   conv=>whnf
   refine⟨rfl,?_⟩
   conv=>whnf
   refine callV_pure (always_ok fr a) ⟨.free (encA_free _ _),trivial⟩ ?_
   conv=>whnf
   conv=>whnf
   refine callV_pure (vNext_ok fr a) ⟨.free (encA_free _ _),trivial⟩ ?_
   conv=>whnf
   refine fun(_:gd none _)=>?_
   conv=>whnf
   refine fun(_:gd none _)=>?_
   conv=>whnf
   refine⟨rfl,by simp,⟨rfl,rfl,rfl,rfl,by decide⟩,by simp,hbd _ (by simp;omega),?_⟩
   conv=>whnf
   refine⟨⟨rfl,rfl,rfl,rfl,by decide⟩,by simp,hbd _ (by simp[f4];try omega),?_⟩
   conv=>whnf
   refine⟨rfl,?_⟩
   conv=>whnf
   refine⟨⟨3,by omega⟩,Wk.of (renOf [(3,8)]) [] ⟨.yld rfl (by omega),?_,.int_of rfl,.int_of ?_,trivial⟩ (LeH.of ⟨⟨by omega,.inl ⟨by simp,_,rfl,rfl,rfl,rfl,rfl,rfl,rfl,.ptr rfl (by omega),.ptr rfl (by omega),trivial⟩⟩,⟨by omega,.inl ⟨by simp,_,rfl,LeB.free cell⟩⟩,⟨by omega,.inl ⟨by simp,_,rfl,id,rfl,.osl_of rfl (by omega) ?_,trivial⟩⟩,⟨by omega,.inl ⟨by simp,_,rfl,LeB.eq_of ?_ (rowsB_free _)⟩⟩,trivial⟩ (show ∀b∈[2,0,1,3],∀b'∈[2,0,1,3],renOf [(3,8)] b=renOf [(3,8)] b'→b=b' by decide) (show ∀b,b < 3→renOf [(3,8)] b=b by decide) (by omega) (by simp)),by simp⟩
   ·exact .free (.sl attrRows_free)
   ·simp[wrap64']
   ·(simp[rawP,part,attrX,cell,f4,Nat.add_assoc];try omega)
   ·simp[rawP,part,attrX,rowsB,u8_nat,wrap8,cell,f4,Nat.add_assoc,List.take_of_length_le]
  case succ.succ.succ.zero=>
   conv=>whnf
   refine⟨rfl,_,⟨by simp,rfl⟩,?_⟩
   conv=>whnf
   subst hasg hbody
   refine roundV_of tab_ok mixed rfl (by simp) (show 2 < 5 by omega) ?_
   conv=>whnf
   refine⟨rfl,?_⟩
   conv=>whnf
   refine callV_pure (hasMed_ok fr a) ⟨.free (encA_free _ _),trivial⟩ ?_
   conv=>whnf
   split
   ·rename_i h
    have h:a.hasMed=false:=by simpa using h
    conv=>whnf
    refine⟨rfl,?_⟩
    conv=>whnf
    refine⟨⟨4,by omega⟩,Wk.of (renOf [(3,3)]) [] ⟨.yld rfl (by omega),?_,.int_of rfl,.int_of ?_,trivial⟩ (LeH.of ⟨⟨by omega,.inl ⟨by simp,_,rfl,rfl,rfl,rfl,rfl,rfl,rfl,.ptr rfl (by omega),.ptr rfl (by omega),trivial⟩⟩,⟨by omega,.inl ⟨by simp,_,rfl,LeB.free cell⟩⟩,⟨by omega,.inl ⟨by simp,_,rfl,id,rfl,.osl_of rfl (by omega) ?_,trivial⟩⟩,⟨by omega,.inl ⟨by simp,_,rfl,LeB.eq_of ?_ (rowsB_free _)⟩⟩,trivial⟩ (show ∀b∈[2,0,1,3],∀b'∈[2,0,1,3],renOf [(3,3)] b=renOf [(3,3)] b'→b=b' by decide) (show ∀b,b < 3→renOf [(3,3)] b=b by decide) (by omega) (by simp)),by simp⟩
    ·exact .free (.sl attrRows_free)
    ·simp[wrap64']
    ·(simp[rawP,part,attrX,h,cell,Nat.add_assoc];try omega)
    ·simp[rawP,part,attrX,rowsB,u8_nat,wrap8,h,cell,Nat.add_assoc,List.take_of_length_le]
   ·rename_i h
    have h:a.hasMed=true:=by simpa using h
    conv=>whnf
    refine callV_pure (vMed_ok fr a) ⟨.free (encA_free _ _),trivial⟩ ?_
    conv=>whnf
    refine fun(_:gd none _)=>?_
    conv=>whnf
    refine fun(_:gd none _)=>?_
    conv=>whnf
    refine⟨rfl,by simp,⟨rfl,rfl,rfl,rfl,by decide⟩,by simp,hbd _ (by simp;omega),?_⟩
    conv=>whnf
    refine⟨⟨rfl,rfl,rfl,rfl,by decide⟩,by simp,hbd _ (by simp[f4];try omega),?_⟩
    conv=>whnf
    refine⟨rfl,?_⟩
    conv=>whnf
    refine⟨⟨4,by omega⟩,Wk.of (renOf [(3,8)]) [] ⟨.yld rfl (by omega),?_,.int_of rfl,.int_of ?_,trivial⟩ (LeH.of ⟨⟨by omega,.inl ⟨by simp,_,rfl,rfl,rfl,rfl,rfl,rfl,rfl,.ptr rfl (by omega),.ptr rfl (by omega),trivial⟩⟩,⟨by omega,.inl ⟨by simp,_,rfl,LeB.free cell⟩⟩,⟨by omega,.inl ⟨by simp,_,rfl,id,rfl,.osl_of rfl (by omega) ?_,trivial⟩⟩,⟨by omega,.inl ⟨by simp,_,rfl,LeB.eq_of ?_ (rowsB_free _)⟩⟩,trivial⟩ (show ∀b∈[2,0,1,3],∀b'∈[2,0,1,3],renOf [(3,8)] b=renOf [(3,8)] b'→b=b' by decide) (show ∀b,b < 3→renOf [(3,8)] b=b by decide) (by omega) (by simp)),by simp⟩
    ·exact .free (.sl attrRows_free)
    ·simp[wrap64']
    ·(simp[rawP,part,attrX,h,f4,Nat.add_assoc];try omega)
    ·simp[rawP,part,attrX,rowsB,u8_nat,wrap8,h,f4,Nat.add_assoc,List.take_of_length_le]
  case succ.succ.succ.succ.zero=>
   conv=>whnf
   refine⟨rfl,_,⟨by simp,rfl⟩,?_⟩
   conv=>whnf
   subst hasg hbody
   refine roundV_of tab_ok mixed rfl (by simp) (show 2 < 5 by omega) ?_
   conv=>whnf
   refine⟨rfl,?_⟩
   conv=>whnf
   refine callV_pure (hasPref_ok fr a) ⟨.free (encA_free _ _),trivial⟩ ?_
   conv=>whnf
   split
   ·rename_i h
    have h:a.hasPref=false:=by simpa using h
    conv=>whnf
    refine⟨rfl,?_⟩
    conv=>whnf
    refine⟨⟨5,by omega⟩,Wk.of (renOf [(3,3)]) [] ⟨.yld rfl (by omega),?_,.int_of rfl,.int_of ?_,trivial⟩ (LeH.of ⟨⟨by omega,.inl ⟨by simp,_,rfl,rfl,rfl,rfl,rfl,rfl,rfl,.ptr rfl (by omega),.ptr rfl (by omega),trivial⟩⟩,⟨by omega,.inl ⟨by simp,_,rfl,LeB.free cell⟩⟩,⟨by omega,.inl ⟨by simp,_,rfl,id,rfl,.osl_of rfl (by omega) ?_,trivial⟩⟩,⟨by omega,.inl ⟨by simp,_,rfl,LeB.eq_of ?_ (rowsB_free _)⟩⟩,trivial⟩ (show ∀b∈[2,0,1,3],∀b'∈[2,0,1,3],renOf [(3,3)] b=renOf [(3,3)] b'→b=b' by decide) (show ∀b,b < 3→renOf [(3,3)] b=b by decide) (by omega) (by simp)),by simp⟩
    ·exact .free (.sl attrRows_free)
    ·simp[wrap64']
    ·(simp[rawP,part,attrX,h,cell,Nat.add_assoc];try omega)
    ·simp[rawP,part,attrX,rowsB,u8_nat,wrap8,h,cell,Nat.add_assoc,List.take_of_length_le]
   ·rename_i h
    have h:a.hasPref=true:=by simpa using h
    conv=>whnf
    refine callV_pure (vPref_ok fr a) ⟨.free (encA_free _ _),trivial⟩ ?_
    conv=>whnf
    refine fun(_:gd none _)=>?_
    conv=>whnf
    refine fun(_:gd none _)=>?_
    conv=>whnf
    refine⟨rfl,by simp,⟨rfl,rfl,rfl,rfl,by decide⟩,by simp,hbd _ (by simp;omega),?_⟩
    conv=>whnf
    refine⟨⟨rfl,rfl,rfl,rfl,by decide⟩,by simp,hbd _ (by simp[f4];try omega),?_⟩
    conv=>whnf
    refine⟨rfl,?_⟩
    conv=>whnf
    refine⟨⟨5,by omega⟩,Wk.of (renOf [(3,8)]) [] ⟨.yld rfl (by omega),?_,.int_of rfl,.int_of ?_,trivial⟩ (LeH.of ⟨⟨by omega,.inl ⟨by simp,_,rfl,rfl,rfl,rfl,rfl,rfl,rfl,.ptr rfl (by omega),.ptr rfl (by omega),trivial⟩⟩,⟨by omega,.inl ⟨by simp,_,rfl,LeB.free cell⟩⟩,⟨by omega,.inl ⟨by simp,_,rfl,id,rfl,.osl_of rfl (by omega) ?_,trivial⟩⟩,⟨by omega,.inl ⟨by simp,_,rfl,LeB.eq_of ?_ (rowsB_free _)⟩⟩,trivial⟩ (show ∀b∈[2,0,1,3],∀b'∈[2,0,1,3],renOf [(3,8)] b=renOf [(3,8)] b'→b=b' by decide) (show ∀b,b < 3→renOf [(3,8)] b=b by decide) (by omega) (by simp)),by simp⟩
    ·exact .free (.sl attrRows_free)
    ·simp[wrap64']
    ·(simp[rawP,part,attrX,h,f4,Nat.add_assoc];try omega)
    ·simp[rawP,part,attrX,rowsB,u8_nat,wrap8,h,f4,Nat.add_assoc,List.take_of_length_le]
  case succ.succ.succ.succ.succ.zero=>
   conv=>whnf
   refine⟨rfl,_,⟨by simp,rfl⟩,?_⟩
   conv=>whnf
   subst hasg hbody
   refine roundV_of tab_ok mixed rfl (by simp) (show 2 < 5 by omega) ?_
   conv=>whnf
   refine⟨rfl,?_⟩
   conv=>whnf
   refine callV_pure (hasTags_ok fr a) ⟨.free (encA_free _ _),trivial⟩ ?_
   conv=>whnf
   split
   ·rename_i h
    have h:¬ 0 < a.tags.length:=by simpa using h
    conv=>whnf
    refine⟨rfl,?_⟩
    conv=>whnf
    refine⟨⟨6,by omega⟩,Wk.of (renOf [(3,3)]) [] ⟨.yld rfl (by omega),?_,.int_of rfl,.int_of ?_,trivial⟩ (LeH.of ⟨⟨by omega,.inl ⟨by simp,_,rfl,rfl,rfl,rfl,rfl,rfl,rfl,.ptr rfl (by omega),.ptr rfl (by omega),trivial⟩⟩,⟨by omega,.inl ⟨by simp,_,rfl,LeB.free cell⟩⟩,⟨by omega,.inl ⟨by simp,_,rfl,id,rfl,.osl_of rfl (by omega) ?_,trivial⟩⟩,⟨by omega,.inl ⟨by simp,_,rfl,LeB.eq_of ?_ (rowsB_free _)⟩⟩,trivial⟩ (show ∀b∈[2,0,1,3],∀b'∈[2,0,1,3],renOf [(3,3)] b=renOf [(3,3)] b'→b=b' by decide) (show ∀b,b < 3→renOf [(3,3)] b=b by decide) (by omega) (by simp)),by simp⟩
    ·exact .free (.sl attrRows_free)
    ·simp[wrap64']
    ·(simp[rawP,part,attrX,h,if_neg,Nat.add_assoc];try omega)
    ·simp[rawP,part,attrX,rowsB,u8_nat,wrap8,h,if_neg,Nat.add_assoc,List.take_of_length_le]
   ·rename_i h
    have h:0 < a.tags.length:=by simpa using h
    have hs:¬ 255 < (allB a.tags).length:=by rw[allB_len];omega
    conv=>whnf
    refine callV_pure (vTags_ok fr a hf) ⟨.free (encA_free _ _),trivial⟩ ?_
    conv=>whnf
    refine fun(_:gd none _)=>?_
    conv=>whnf
    split
    ·rename_i hb
     exact absurd hb (by simp;omega)
    rename_i hb
    conv=>whnf
    refine fun(_:gd none _)=>?_
    conv=>whnf
    refine⟨rfl,by simp,⟨rfl,rfl,rfl,rfl,by decide⟩,by simp,hbd _ (by simp;omega),?_⟩
    conv=>whnf
    refine⟨⟨rfl,rfl,rfl,rfl,by decide⟩,by simp,hbd _ (by simp;omega),?_⟩
    conv=>whnf
    refine⟨rfl,?_⟩
    conv=>whnf
    refine⟨⟨6,by omega⟩,Wk.of (renOf [(3,8)]) [] ⟨.yld rfl (by omega),?_,.int_of rfl,.int_of ?_,trivial⟩ (LeH.of ⟨⟨by omega,.inl ⟨by simp,_,rfl,rfl,rfl,rfl,rfl,rfl,rfl,.ptr rfl (by omega),.ptr rfl (by omega),trivial⟩⟩,⟨by omega,.inl ⟨by simp,_,rfl,LeB.free cell⟩⟩,⟨by omega,.inl ⟨by simp,_,rfl,id,rfl,.osl_of rfl (by omega) ?_,trivial⟩⟩,⟨by omega,.inl ⟨by simp,_,rfl,LeB.eq_of ?_ (rowsB_free _)⟩⟩,trivial⟩ (show ∀b∈[2,0,1,3],∀b'∈[2,0,1,3],renOf [(3,8)] b=renOf [(3,8)] b'→b=b' by decide) (show ∀b,b < 3→renOf [(3,8)] b=b by decide) (by omega) (by simp)),by simp⟩
    ·exact .free (.sl attrRows_free)
    ·simp[wrap64']
    ·(simp[rawP,part,attrX,h,hs,Nat.add_assoc];try omega)
    ·simp[rawP,part,attrX,rowsB,u8_nat,wrap8,h,hs,Nat.add_assoc,List.take_of_length_le]
  case succ.zero=>
   conv=>whnf
   refine⟨rfl,_,⟨by simp,rfl⟩,?_⟩
   conv=>whnf
   subst hasg hbody
   refine roundV_of tab_ok mixed rfl (by simp) (show 2 < 5 by omega) ?_
   conv=>whnf
   refine⟨rfl,?_⟩
   conv=>whnf
   refine callV_pure (always_ok fr a) ⟨.free (encA_free _ _),trivial⟩ ?_
   conv=>whnf
   conv=>whnf
   refine callV_pure (route_ok fr a hf) ⟨.free (encA_free _ _),trivial⟩ ?_
   conv=>whnf
   refine fun(_:gd none _)=>?_
   conv=>whnf
   split
   ·rename_i hb
    have hs:255 < (pathB a.path).length:=by simp at hb;omega
    conv=>whnf
    refine⟨rfl,by simp,⟨rfl,rfl,rfl,rfl,by decide⟩,by simp,hbd _ (by simp;omega),?_⟩
    conv=>whnf
    refine fun(_:gd none _)=>?_
    conv=>whnf
    refine callV_pure (highI_ok (pathB a.path).length (by omega)) ⟨.int_of (by simp),.free .int,trivial⟩ ?_
    conv=>whnf
    refine⟨⟨rfl,rfl,rfl,rfl,by decide⟩,by simp,hbd _ (by simp[twoB];omega),?_⟩
    conv=>whnf
    refine⟨⟨rfl,rfl,rfl,rfl,by decide⟩,by simp,hbd _ (by simp[twoB];omega),?_⟩
    conv=>whnf
    refine⟨rfl,?_⟩
    conv=>whnf
    refine⟨⟨2,by omega⟩,Wk.of (renOf [(3,9)]) [] ⟨.yld rfl (by omega),?_,.int_of rfl,.int_of ?_,trivial⟩ (LeH.of ⟨⟨by omega,.inl ⟨by simp,_,rfl,rfl,rfl,rfl,rfl,rfl,rfl,.ptr rfl (by omega),.ptr rfl (by omega),trivial⟩⟩,⟨by omega,.inl ⟨by simp,_,rfl,LeB.free cell⟩⟩,⟨by omega,.inl ⟨by simp,_,rfl,id,rfl,.osl_of rfl (by omega) ?_,trivial⟩⟩,⟨by omega,.inl ⟨by simp,_,rfl,LeB.eq_of ?_ (rowsB_free _)⟩⟩,trivial⟩ (show ∀b∈[2,0,1,3],∀b'∈[2,0,1,3],renOf [(3,9)] b=renOf [(3,9)] b'→b=b' by decide) (show ∀b,b < 3→renOf [(3,9)] b=b by decide) (by omega) (by simp)),by simp⟩
    ·exact .free (.sl attrRows_free)
    ·simp[wrap64']
    ·(simp[rawP,part,attrX,hs,twoB,or80,Nat.add_assoc];try omega)
    ·simp[rawP,part,attrX,rowsB,u8_nat,wrap8,hs,twoB,or80,Nat.add_assoc,List.take_of_length_le]
   ·rename_i hb
    have hs:¬ 255 < (pathB a.path).length:=by simp at hb;omega
    conv=>whnf
    refine fun(_:gd none _)=>?_
    conv=>whnf
    refine⟨rfl,by simp,⟨rfl,rfl,rfl,rfl,by decide⟩,by simp,hbd _ (by simp;omega),?_⟩
    conv=>whnf
    refine⟨⟨rfl,rfl,rfl,rfl,by decide⟩,by simp,hbd _ (by simp;omega),?_⟩
    conv=>whnf
    refine⟨rfl,?_⟩
    conv=>whnf
    refine⟨⟨2,by omega⟩,Wk.of (renOf [(3,8)]) [] ⟨.yld rfl (by omega),?_,.int_of rfl,.int_of ?_,trivial⟩ (LeH.of ⟨⟨by omega,.inl ⟨by simp,_,rfl,rfl,rfl,rfl,rfl,rfl,rfl,.ptr rfl (by omega),.ptr rfl (by omega),trivial⟩⟩,⟨by omega,.inl ⟨by simp,_,rfl,LeB.free cell⟩⟩,⟨by omega,.inl ⟨by simp,_,rfl,id,rfl,.osl_of rfl (by omega) ?_,trivial⟩⟩,⟨by omega,.inl ⟨by simp,_,rfl,LeB.eq_of ?_ (rowsB_free _)⟩⟩,trivial⟩ (show ∀b∈[2,0,1,3],∀b'∈[2,0,1,3],renOf [(3,8)] b=renOf [(3,8)] b'→b=b' by decide) (show ∀b,b < 3→renOf [(3,8)] b=b by decide) (by omega) (by simp)),by simp⟩
    ·exact .free (.sl attrRows_free)
    ·simp[wrap64']
    ·(simp[rawP,part,attrX,hs,cell,Nat.add_assoc];try omega)
    ·simp[rawP,part,attrX,rowsB,u8_nat,wrap8,hs,cell,Nat.add_assoc,List.take_of_length_le]
end
theorem attrX_eq (f c:UInt8) (v:List UInt8):attrX f c v=attrB f c v:=by
 unfold attrX attrB twoB
 split
 ·have:UInt8.ofNat (v.length % 256)=UInt8.ofNat v.length:=by
   apply UInt8.toNat_inj.1
   simp
  rw[this]
  rfl
 ·rfl
theorem rawP_eq (a:Attrs):rawP a 6=rawA a:=by
 simp only[rawP,part,rawA,rawO,attrX_eq,List.nil_append,List.append_assoc]
section
open Go.Proofs.Tryz (prog)
attribute [local irreducible] CallV RoundV
def firstOf (a:Attrs):UInt32:=match a.path with
 | p :: _=>if p.set then 0 else p.ns.headD 0
 | []=>0
end
section
open Go.Proofs.Tryz (prog)
attribute [local irreducible] CallV RoundV
def lenOf (p:Leg):Nat:=if p.set then 1 else p.ns.length
def lengthOf (l:List Leg):Nat:=(l.map lenOf).sum
end
section
open Go.Proofs.Tryz (prog)
attribute [local irreducible] CallV RoundV
abbrev rowsW (b:List UInt32):List (List V):=b.map fun x=>[V.int .u32 x.toNat]
def numsK (b:List UInt8) (k:Nat):List UInt32:=(List.range k).map fun j=>wordOf ((b.drop (4 * j)).take 4)
end
section
open Go.Proofs.Tryz (prog)
attribute [local irreducible] CallV RoundV
theorem int2_free (a b:V) (h1:Free a) (h2:Free b):Free (.tup [a,b]):=.tup (by intro v hv;simp at hv;rcases hv with rfl|rfl<;>assumption)
theorem mul_ok (n:Nat) (hn:n≤8):PCon prog 165 [.int .u64 1,.int .u64 n] (.tup [.int .u64 0,.int .u64 n]):=by
 have hn':n=0∨n=1∨n=2∨n=3∨n=4∨n=5∨n=6∨n=7∨n=8:=by omega
 rcases hn' with rfl|rfl|rfl|rfl|rfl|rfl|rfl|rfl|rfl
 ·refine callV_of (fn:=Go.Proofs.Tryz.f165) (body:=_) tab_ok mixed rfl rfl (by decide) (by simp[Go.Proofs.Tryz.f165]) ?_
  conv=>whnf
  refine callV_of (fn:=Go.Proofs.Tryz.f210) (body:=_) tab_ok mixed rfl rfl (by decide) (by simp[Go.Proofs.Tryz.f210]) ?_
  conv=>whnf
  iterate 5
   refine⟨by decide,?_⟩
   conv=>whnf
  refine⟨_,_,_,Ends.here,?_⟩
  conv=>whnf
  exact Ends.pure [] (.eq_of (by kernel_rfl) (int2_free _ _ .int .int)) (by simp)
 ·refine callV_of (fn:=Go.Proofs.Tryz.f165) (body:=_) tab_ok mixed rfl rfl (by decide) (by simp[Go.Proofs.Tryz.f165]) ?_
  conv=>whnf
  refine callV_of (fn:=Go.Proofs.Tryz.f210) (body:=_) tab_ok mixed rfl rfl (by decide) (by simp[Go.Proofs.Tryz.f210]) ?_
  conv=>whnf
  iterate 5
   refine⟨by decide,?_⟩
   conv=>whnf
  refine⟨_,_,_,Ends.here,?_⟩
  conv=>whnf
  exact Ends.pure [] (.eq_of (by kernel_rfl) (int2_free _ _ .int .int)) (by simp)
 ·refine callV_of (fn:=Go.Proofs.Tryz.f165) (body:=_) tab_ok mixed rfl rfl (by decide) (by simp[Go.Proofs.Tryz.f165]) ?_
  conv=>whnf
  refine callV_of (fn:=Go.Proofs.Tryz.f210) (body:=_) tab_ok mixed rfl rfl (by decide) (by simp[Go.Proofs.Tryz.f210]) ?_
  conv=>whnf
  iterate 5
   refine⟨by decide,?_⟩
   conv=>whnf
  refine⟨_,_,_,Ends.here,?_⟩
  conv=>whnf
  exact Ends.pure [] (.eq_of (by kernel_rfl) (int2_free _ _ .int .int)) (by simp)
 ·refine callV_of (fn:=Go.Proofs.Tryz.f165) (body:=_) tab_ok mixed rfl rfl (by decide) (by simp[Go.Proofs.Tryz.f165]) ?_
  conv=>whnf
  refine callV_of (fn:=Go.Proofs.Tryz.f210) (body:=_) tab_ok mixed rfl rfl (by decide) (by simp[Go.Proofs.Tryz.f210]) ?_
  conv=>whnf
  iterate 5
   refine⟨by decide,?_⟩
   conv=>whnf
  refine⟨_,_,_,Ends.here,?_⟩
  conv=>whnf
  exact Ends.pure [] (.eq_of (by kernel_rfl) (int2_free _ _ .int .int)) (by simp)
 ·refine callV_of (fn:=Go.Proofs.Tryz.f165) (body:=_) tab_ok mixed rfl rfl (by decide) (by simp[Go.Proofs.Tryz.f165]) ?_
  conv=>whnf
  refine callV_of (fn:=Go.Proofs.Tryz.f210) (body:=_) tab_ok mixed rfl rfl (by decide) (by simp[Go.Proofs.Tryz.f210]) ?_
  conv=>whnf
  iterate 5
   refine⟨by decide,?_⟩
   conv=>whnf
  refine⟨_,_,_,Ends.here,?_⟩
  conv=>whnf
  exact Ends.pure [] (.eq_of (by kernel_rfl) (int2_free _ _ .int .int)) (by simp)
 ·refine callV_of (fn:=Go.Proofs.Tryz.f165) (body:=_) tab_ok mixed rfl rfl (by decide) (by simp[Go.Proofs.Tryz.f165]) ?_
  conv=>whnf
  refine callV_of (fn:=Go.Proofs.Tryz.f210) (body:=_) tab_ok mixed rfl rfl (by decide) (by simp[Go.Proofs.Tryz.f210]) ?_
  conv=>whnf
  iterate 5
   refine⟨by decide,?_⟩
   conv=>whnf
  refine⟨_,_,_,Ends.here,?_⟩
  conv=>whnf
  exact Ends.pure [] (.eq_of (by kernel_rfl) (int2_free _ _ .int .int)) (by simp)
 ·refine callV_of (fn:=Go.Proofs.Tryz.f165) (body:=_) tab_ok mixed rfl rfl (by decide) (by simp[Go.Proofs.Tryz.f165]) ?_
  conv=>whnf
  refine callV_of (fn:=Go.Proofs.Tryz.f210) (body:=_) tab_ok mixed rfl rfl (by decide) (by simp[Go.Proofs.Tryz.f210]) ?_
  conv=>whnf
  iterate 5
   refine⟨by decide,?_⟩
   conv=>whnf
  refine⟨_,_,_,Ends.here,?_⟩
  conv=>whnf
  exact Ends.pure [] (.eq_of (by kernel_rfl) (int2_free _ _ .int .int)) (by simp)
 ·refine callV_of (fn:=Go.Proofs.Tryz.f165) (body:=_) tab_ok mixed rfl rfl (by decide) (by simp[Go.Proofs.Tryz.f165]) ?_
  conv=>whnf
  refine callV_of (fn:=Go.Proofs.Tryz.f210) (body:=_) tab_ok mixed rfl rfl (by decide) (by simp[Go.Proofs.Tryz.f210]) ?_
  conv=>whnf
  iterate 5
   refine⟨by decide,?_⟩
   conv=>whnf
  refine⟨_,_,_,Ends.here,?_⟩
  conv=>whnf
  exact Ends.pure [] (.eq_of (by kernel_rfl) (int2_free _ _ .int .int)) (by simp)
 ·refine callV_of (fn:=Go.Proofs.Tryz.f165) (body:=_) tab_ok mixed rfl rfl (by decide) (by simp[Go.Proofs.Tryz.f165]) ?_
  conv=>whnf
  refine callV_of (fn:=Go.Proofs.Tryz.f210) (body:=_) tab_ok mixed rfl rfl (by decide) (by simp[Go.Proofs.Tryz.f210]) ?_
  conv=>whnf
  iterate 5
   refine⟨by decide,?_⟩
   conv=>whnf
  refine⟨_,_,_,Ends.here,?_⟩
  conv=>whnf
  exact Ends.pure [] (.eq_of (by kernel_rfl) (int2_free _ _ .int .int)) (by simp)
def repRows (x:UInt32) (m n:Nat):List (List V):=List.replicate m [cW x]++ List.replicate (n - m) [.int .u32 0]
theorem repRows_free (x:UInt32) (m n:Nat):∀r∈repRows x m n,∀v∈r,Free v:=by
 intro r hr v hv
 rcases List.mem_append.1 hr with h|h
 ·rw[List.eq_of_mem_replicate h]at hv;simp at hv;subst hv;exact .int
 ·rw[List.eq_of_mem_replicate h]at hv;simp at hv;subst hv;exact .int
theorem repRows_len (x:UInt32) (m n:Nat) (h:m≤n):(repRows x m n).length=n:=by simp[repRows];omega
theorem repRows_step (x:UInt32) (m n:Nat) (h:m≤n):(repRows x m n).take m ++ ((repRows x m n).take m).take (n - m)++ (repRows x m n).drop (m + min m (n - m))=repRows x (m + min m (n - m)) n:=by
 have h1:(repRows x m n).take m=List.replicate m [cW x]:=by
  rw[repRows,List.take_append_of_le_length (by simp),List.take_of_length_le (by simp)]
 rw[h1]
 have h2:(repRows x m n).drop (m + min m (n - m))=List.replicate (n - m - min m (n - m)) [.int .u32 0]:=by
  rw[repRows,List.drop_append,List.drop_eq_nil_of_le (by simp),List.nil_append,List.length_replicate,List.drop_replicate]
  congr 1
  omega
 rw[h2,repRows,List.take_replicate]
 rw[show List.replicate m [cW x]++ List.replicate (min (n - m) m) [cW x]=List.replicate (m + min m (n - m)) [cW x]by rw[List.replicate_append_replicate,Nat.min_comm]]
 congr 2
 omega
theorem repeat_ok (fr:Bool) (x:UInt32) (n:Nat) (hn:n≤8):PCon prog 128 [encW fr [x],cI n] (encW true (List.replicate n x)):=by
 refine callV_of (fn:=Go.Proofs.Tryz.f128) (body:=_) tab_ok mixed rfl rfl (by decide) (by simp[Go.Proofs.Tryz.f128]) ?_
 conv=>whnf
 intro _
 conv=>whnf
 refine callV_pure (mul_ok n hn) ⟨.int_of ?_,.int_of ?_,trivial⟩ ?_
 ·simp[wrapu64]
 ·rw[wrapu64];omega
 conv=>whnf
 rw[show decide (((9223372036854775807:Int)) < (n:Int))=false by simp;omega]
 conv=>whnf
 have hw:IntKind.i64.wrap (n:Int)=n:=by rw[wrap64]<;>omega
 rw[hw]
 refine⟨⟨by omega,by omega,by simp[tab,tabOf,nth];omega,by omega⟩,?_⟩
 conv=>whnf
 refine⟨⟨rfl,rfl,rfl⟩,by simp,?_⟩
 conv=>whnf
 refine vcg_loop tab_ok mixed (fun m:{m:Nat // m≤n∧(m=0→n=0)}=>⟨[(7,.osl 0 1 0 n),(8,cI m.1)],[(0,some (.arr true true 22 1 (repRows x m.1 n)))],1⟩) (fun m=>n - m.1) ⟨min 1 n,by omega,by omega⟩ ?_ (fun m=>?_)
 ·refine Wk.of id [] ⟨.osl_of rfl (by omega) (by simp),.int_of (by simp),trivial⟩ (LeH.of ⟨⟨by omega,.inl ⟨by simp,_,rfl,LeB.eq_of ?_ (repRows_free _ _ _)⟩⟩,trivial⟩ (fun _ _ _ _ h=>h) (fun _ _=>rfl) (by omega) (by simp))
  rw[Int.toNat_natCast]
  simp only[List.length_map,List.length_cons,List.length_nil,Nat.zero_add,List.take_zero,List.nil_append,List.drop_replicate,repRows]
  congr 1
  rcases n with _|n
  ·rfl
  ·simp[Nat.min_eq_left (show 1≤n + 1 by omega)]
 obtain⟨m,hm,hm0⟩:=m
 conv=>whnf
 intro _
 conv=>whnf
 split
 ·rename_i hc
  have hc:m < n:=by simpa using hc
  conv=>whnf
  refine⟨rfl,⟨by simp,by simp;try omega⟩,?_⟩
  conv=>whnf
  refine⟨rfl,.own,⟨by simp,by simp,by simp,by simp;try omega⟩,?_⟩
  conv=>whnf
  refine⟨rfl,by simp[repRows_len x m n hm];try omega,⟨rfl,rfl,rfl⟩,by simp[repRows_len x m n hm];try omega,?_⟩
  conv=>whnf
  refine⟨by kernel_rfl,?_⟩
  conv=>whnf
  have hlen:min (List.take ((m:Int).toNat - 0) (List.drop (0 + 0) (repRows x m n))).length (n - (m:Int).toNat)=min m (n - m):=by
   simp[repRows_len x m n hm]
  refine⟨⟨m + min m (n - m),by omega,by omega⟩,Wk.of id [] ⟨.osl_of rfl (by omega) rfl,.int_of ?_,trivial⟩ (LeH.of ⟨⟨by omega,.inl ⟨by simp,_,rfl,LeB.eq_of ?_ (repRows_free _ _ _)⟩⟩,trivial⟩ (fun _ _ _ _ h=>h) (fun _ _=>rfl) (by omega) (by simp)),by simp only;omega⟩
  ·simp only[hlen]
   rw[wrap64]<;>omega
  ·simp only[hlen]
   have:=repRows_step x m n hm
   simpa using this
 ·rename_i hc
  have hc:m=n:=by simp at hc;omega
  subst hc
  conv=>whnf
  refine Ends.pure [0] (LeV.freeze_of (by simp) rfl (by simp[repRows_len]) (repRows_free _ _ _) ?_) (one_none rfl)
  simp[repRows]
def IsW (fr:Bool) (v:V) (l:List UInt32):Prop:=v=encW fr l∨(v=.snil∧l=[])
theorem IsW.free {fr:Bool} {v:V} {l:List UInt32} (h:IsW fr v l):Free v:=by
 rcases h with rfl|⟨rfl,_⟩
 ·exact encW_free _ _
 ·exact .snil
theorem IsW.cold {v:V} {l:List UInt32} (h:IsW false v l):Cold v:=by
 rcases h with rfl|⟨rfl,_⟩
 ·exact encW_cold _
 ·exact .snil
def pairV (fr:Bool) (l1:List UInt32) (v2:V):V:=.sl fr 1 [[encW fr l1],[v2]]
theorem pairV_free {fr:Bool} {l1 l2:List UInt32} {v2:V} (h:IsW fr v2 l2):Free (pairV fr l1 v2):=.sl (by
 intro x hx v hv
 simp at hx
 rcases hx with rfl|rfl
 ·simp at hv;subst hv;exact encW_free _ _
 ·simp at hv;subst hv;exact h.free)
def catLen (l1 l2:List UInt32):Nat→Nat
 | 0=>0
 | 1=>l1.length
 | _=>l1.length + l2.length
theorem zeros_free (n:Nat):∀r∈List.replicate n [V.int .u32 0],∀v∈r,Free v:=by
 intro r hr v hv
 rw[List.eq_of_mem_replicate hr]at hv;simp at hv;subst hv;exact .int
def catR (r0:List (List V)) (l1 l2:List UInt32):Nat→List (List V)
 | 0=>r0
 | 1=>rowsW l1
 | _=>rowsW (l1 ++ l2)
theorem concat_ok (fr:Bool) (l1 l2:List UInt32) (v2:V) (h2:IsW fr v2 l2) (n1:l1.length≤1000) (n2:l2.length≤1000):PCon prog 127 [pairV fr l1 v2] (encW true (l1 ++ l2)):=by
 refine callV_of (fn:=Go.Proofs.Tryz.f127) (body:=_) tab_ok mixed rfl rfl (by decide) (by simp[Go.Proofs.Tryz.f127]) ?_
 conv=>whnf
 intro _
 conv=>whnf
 refine vcg_loop tab_ok mixed (fun i:{i:Nat // i≤2}=>⟨[(0,pairV fr l1 v2),(3,cI (catLen l1 l2 i.1)),(9,pairV fr l1 v2),(10,.int .i64 2),(11,cI i.1)],[],0⟩) (fun i=>2 - i.1) ⟨0,by omega⟩ (Wk.of id [] ⟨.free (pairV_free h2),.int_of rfl,.free (pairV_free h2),.int_of rfl,.int_of rfl,trivial⟩ (LeH.nil (Nat.le_refl _) (fun b h=>by omega) (by simp))) (fun i=>?_)
 obtain⟨i,hi⟩:=i
 rcases i with _|_|_|i
 case succ.succ.succ=>omega
 case zero=>
  conv=>whnf
  refine⟨rfl,_,⟨by simp,rfl⟩,?_⟩
  conv=>whnf
  intro _
  conv=>whnf
  have hw:IntKind.i64.wrap (((catLen l1 l2 (⟨0,hi⟩:{i:Nat // i≤2}).val:Nat):Int)+ ((List.map (fun x=>[V.int .u32 x.toNat]) l1).length:Nat))=(catLen l1 l2 1:Nat):=by
   simp only[catLen,List.length_map];rw[wrap64]<;>omega
  split
  ·rename_i h;rw[hw]at h;simp at h;omega
  conv=>whnf
  exact⟨⟨1,by omega⟩,Wk.of id [] ⟨.free (pairV_free h2),.int_of hw,.free (pairV_free h2),.int_of rfl,.int_of rfl,trivial⟩ (LeH.nil (Nat.le_refl _) (fun b h=>by omega) (by simp)),by simp only;omega⟩
 case succ.zero=>
  conv=>whnf
  refine⟨rfl,_,⟨by simp,rfl⟩,?_⟩
  conv=>whnf
  have hw:∀n:Nat,n=l2.length→IntKind.i64.wrap (((catLen l1 l2 (⟨0 + 1,hi⟩:{i:Nat // i≤2}).val:Nat):Int)+ (n:Nat))=(catLen l1 l2 2:Nat):=by
   intro n hn
   simp only[catLen];rw[wrap64]<;>omega
  have h2':=h2
  rcases h2' with h|⟨h,h0⟩
  ·rw[h]
   conv=>whnf
   intro _
   conv=>whnf
   have hw:=hw ((List.map (fun x=>[V.int .u32 x.toNat]) l2).length) (by simp)
   split
   ·rename_i h;rw[hw]at h;simp at h;omega
   conv=>whnf
   exact⟨⟨2,by omega⟩,Wk.of id [] ⟨h▸.free (pairV_free h2),.int_of hw,h▸.free (pairV_free h2),.int_of rfl,.int_of rfl,trivial⟩ (LeH.nil (Nat.le_refl _) (fun b h=>by omega) (by simp)),by simp only;omega⟩
  ·rw[h]
   conv=>whnf
   have hw:IntKind.i64.wrap (((catLen l1 l2 (⟨0 + 1,hi⟩:{i:Nat // i≤2}).val:Nat):Int)+ 0)=(catLen l1 l2 2:Nat):=hw 0 (by simp[h0])
   split
   ·rename_i h;rw[hw]at h;simp at h;omega
   conv=>whnf
   exact⟨⟨2,by omega⟩,Wk.of id [] ⟨h▸.free (pairV_free h2),.int_of hw,h▸.free (pairV_free h2),.int_of rfl,.int_of rfl,trivial⟩ (LeH.nil (Nat.le_refl _) (fun b h=>by omega) (by simp)),by simp only;omega⟩
 case succ.succ.zero=>
  conv=>whnf
  refine callV_of (fn:=Go.Proofs.Tryz.f164) (body:=_) tab_ok mixed rfl rfl (by decide) (by simp[Go.Proofs.Tryz.f164]) ?_
  conv=>whnf
  have hn:IntKind.i64.wrap (((catLen l1 l2 (⟨0 + 1 + 1,hi⟩:{i:Nat // i≤2}).val:Nat):Int) - IntKind.i64.wrap (0 - 0))=(l1.length + l2.length:Nat):=by
   rw[show IntKind.i64.wrap (0 - 0)=0 by decide]
   simp only[catLen];rw[wrap64]<;>omega
  split
  ·rename_i hc
   conv=>whnf
   refine⟨⟨trivial,by simp,rfl,rfl⟩,?_⟩
   conv=>whnf
   refine⟨by rw[hn];exact⟨by decide,by omega,by simp[tab,tabOf,nth];omega,by omega⟩,?_⟩
   conv=>whnf
   refine⟨rfl,.own,⟨trivial,by simp,by simp,by simp⟩,?_⟩
   conv=>whnf
   refine⟨_,_,_,Ends.here,?_⟩
   conv=>whnf
   intro _
   conv=>whnf
   refine vcg_loop tab_ok mixed (fun i:{i:Nat // i≤2}=>⟨[(6,.osl 0 1 0 (catLen l1 l2 i.1)),(25,pairV fr l1 v2),(26,.int .i64 2),(27,cI i.1)],[(0,some (.arr true false 22 1 (catR (List.replicate (l1.length + l2.length) [.int .u32 0]) l1 l2 i.1)))],1⟩) (fun i=>2 - i.1) ⟨0,by omega⟩ (Wk.of id [] ⟨.osl_of rfl (by omega) rfl,.free (pairV_free h2),.int_of rfl,.int_of rfl,trivial⟩ (LeH.of ⟨⟨by omega,.inl ⟨by simp,_,rfl,(LeB.eq_of (by simp only[hn,Int.toNat_natCast];rfl) (by exact zeros_free _))⟩⟩,trivial⟩ (fun _ _ _ _ h=>h) (fun _ _=>rfl) (by omega) (by simp))) (fun i=>?_)
   obtain⟨i,hi⟩:=i
   rcases i with _|_|_|i
   case succ.succ.succ=>omega
   case zero=>
    conv=>whnf
    refine⟨rfl,_,⟨by simp,rfl⟩,?_⟩
    conv=>whnf
    refine⟨⟨rfl,rfl,rfl,rfl,by decide⟩,by simp[catLen],⟨by simp[tab,tabOf,nth,catLen];omega,by simp[catLen];omega⟩,?_⟩
    conv=>whnf
    refine⟨⟨1,by omega⟩,Wk.of (renOf [(0,1)]) [] ⟨.osl_of rfl (by omega) (by simp[catLen]),.free (pairV_free h2),.int_of rfl,.int_of rfl,trivial⟩ (LeH.of ⟨⟨by omega,.inl ⟨by simp,_,rfl,LeB.eq_of ?_ (by exact rowsW_free l1)⟩⟩,trivial⟩ (show ∀b∈[0],∀b'∈[0],renOf [(0,1)] b=renOf [(0,1)] b'→b=b' by decide) (show ∀b,b < 0→renOf [(0,1)] b=b by decide) (by omega) (by simp)),by simp only;omega⟩
    simp[catR,catLen]
   case succ.zero=>
    conv=>whnf
    refine⟨rfl,_,⟨by simp,rfl⟩,?_⟩
    conv=>whnf
    have h2':=h2
    rcases h2' with h|⟨h,h0⟩
    ·rw[h]
     conv=>whnf
     refine⟨⟨rfl,rfl,rfl,rfl,by decide⟩,by simp[catLen,catR],⟨by simp[tab,tabOf,nth,catLen];omega,by simp[catLen];omega⟩,?_⟩
     conv=>whnf
     refine⟨⟨2,by omega⟩,Wk.of (renOf [(0,1)]) [] ⟨.osl_of rfl (by omega) (by simp[catLen]),h▸.free (pairV_free h2),.int_of rfl,.int_of rfl,trivial⟩ (LeH.of ⟨⟨by omega,.inl ⟨by simp,_,rfl,LeB.eq_of ?_ (rowsW_free (l1 ++ l2))⟩⟩,trivial⟩ (show ∀b∈[0],∀b'∈[0],renOf [(0,1)] b=renOf [(0,1)] b'→b=b' by decide) (show ∀b,b < 0→renOf [(0,1)] b=b by decide) (by omega) (by simp)),by simp only;omega⟩
     simp[catR,catLen]
     exact List.take_of_length_le (by simp)
    ·rw[h]
     conv=>whnf
     refine⟨_,⟨rfl,rfl,rfl,rfl,by decide⟩,by simp[catLen,catR],⟨by simp[tab,tabOf,nth,catLen];omega,by simp[catLen];omega⟩,?_⟩
     conv=>whnf
     refine⟨⟨2,by omega⟩,Wk.of (renOf [(0,1)]) [] ⟨.osl_of rfl (by omega) (by simp[catLen,h0]),h▸.free (pairV_free h2),.int_of rfl,.int_of rfl,trivial⟩ (LeH.of ⟨⟨by omega,.inl ⟨by simp,_,rfl,LeB.eq_of ?_ (rowsW_free (l1 ++ l2))⟩⟩,trivial⟩ (show ∀b∈[0],∀b'∈[0],renOf [(0,1)] b=renOf [(0,1)] b'→b=b' by decide) (show ∀b,b < 0→renOf [(0,1)] b=b by decide) (by omega) (by simp)),by simp only;omega⟩
     simp[catR,catLen,h0]
     exact List.take_of_length_le (by simp)
   case succ.succ.zero=>
    conv=>whnf
    refine Ends.pure [0] (LeV.freeze_of (by simp) rfl (by simp[catLen,catR]) (rowsW_free (l1 ++ l2)) ?_) (one_none rfl)
    simp[catLen,catR]
    exact List.take_of_length_le (by simp)
  ·rename_i hc
   have h0:l1.length + l2.length=0:=by rw[hn]at hc;simp at hc;omega
   conv=>whnf
   refine⟨_,_,_,Ends.here,?_⟩
   conv=>whnf
   intro _
   conv=>whnf
   refine vcg_loop tab_ok mixed (fun i:{i:Nat // i≤2}=>⟨[(6,.osl 0 1 0 0),(25,pairV fr l1 v2),(26,.int .i64 2),(27,cI i.1)],[(0,some (.arr true false 22 1 []))],1⟩) (fun i=>2 - i.1) ⟨0,by omega⟩ (Wk.of id [] ⟨.osl0,.free (pairV_free h2),.int_of rfl,.int_of rfl,trivial⟩ (LeH.of ⟨⟨by omega,.inr ⟨by simp,_,_,_,_,rfl⟩⟩,trivial⟩ (fun _ _ _ _ h=>h) (fun _ _=>rfl) (by omega) (by simp))) (fun i=>?_)
   obtain rfl:l1=[]:=List.eq_nil_of_length_eq_zero (by omega)
   obtain rfl:l2=[]:=List.eq_nil_of_length_eq_zero (by omega)
   obtain⟨i,hi⟩:=i
   rcases i with _|_|_|i
   case succ.succ.succ=>omega
   case zero=>
    conv=>whnf
    refine⟨rfl,_,⟨by simp,rfl⟩,?_⟩
    conv=>whnf
    refine⟨⟨rfl,rfl,rfl,rfl,by decide⟩,by simp,⟨by simp[tab,tabOf,nth],by simp⟩,?_⟩
    conv=>whnf
    refine⟨⟨1,by omega⟩,Wk.of (renOf [(0,1)]) [] ⟨.osl_of rfl (by omega) (by simp),.free (pairV_free h2),.int_of rfl,.int_of rfl,trivial⟩ (LeH.of ⟨⟨by omega,.inl ⟨by simp,_,rfl,LeB.eq_of rfl (by intro x hx;simp at hx)⟩⟩,trivial⟩ (show ∀b∈[0],∀b'∈[0],renOf [(0,1)] b=renOf [(0,1)] b'→b=b' by decide) (show ∀b,b < 0→renOf [(0,1)] b=b by decide) (by omega) (by simp)),by simp only;omega⟩
   case succ.zero=>
    conv=>whnf
    refine⟨rfl,_,⟨by simp,rfl⟩,?_⟩
    conv=>whnf
    have h2':=h2
    rcases h2' with h|⟨h,h0⟩
    ·rw[h]
     conv=>whnf
     refine⟨⟨rfl,rfl,rfl,rfl,by decide⟩,by simp,⟨by simp[tab,tabOf,nth],by simp⟩,?_⟩
     conv=>whnf
     refine⟨⟨2,by omega⟩,Wk.of (renOf [(0,1)]) [] ⟨.osl_of rfl (by omega) (by simp),h▸.free (pairV_free h2),.int_of rfl,.int_of rfl,trivial⟩ (LeH.of ⟨⟨by omega,.inl ⟨by simp,_,rfl,LeB.eq_of rfl (by intro x hx;simp at hx)⟩⟩,trivial⟩ (show ∀b∈[0],∀b'∈[0],renOf [(0,1)] b=renOf [(0,1)] b'→b=b' by decide) (show ∀b,b < 0→renOf [(0,1)] b=b by decide) (by omega) (by simp)),by simp only;omega⟩
    ·rw[h]
     conv=>whnf
     refine⟨_,⟨rfl,rfl,rfl,rfl,by decide⟩,by simp,⟨by simp[tab,tabOf,nth],by simp⟩,?_⟩
     conv=>whnf
     refine⟨⟨2,by omega⟩,Wk.of (renOf [(0,1)]) [] ⟨.osl_of rfl (by omega) (by simp),h▸.free (pairV_free h2),.int_of rfl,.int_of rfl,trivial⟩ (LeH.of ⟨⟨by omega,.inl ⟨by simp,_,rfl,LeB.eq_of rfl (by intro x hx;simp at hx)⟩⟩,trivial⟩ (show ∀b∈[0],∀b'∈[0],renOf [(0,1)] b=renOf [(0,1)] b'→b=b' by decide) (show ∀b,b < 0→renOf [(0,1)] b=b by decide) (by omega) (by simp)),by simp only;omega⟩
   case succ.succ.zero=>
    conv=>whnf
    exact Ends.pure [0] (LeV.freeze_of (by simp) rfl (by simp) (by intro x hx;simp at hx) rfl) (one_none rfl)
end
section
open Go.Proofs.Tryz (prog)
attribute [local irreducible] CallV RoundV
def noA:Attrs:=⟨0,[],0,false,0,false,0,[]⟩
theorem LeV.noA {h:Heap} {nx nx':Nat} {ρ:Nat→Nat} {Z:List Nat} {fr:Bool}:LeV h nx ρ nx' Z (.agg zeroA) (encA fr noA):=
 .aggL ⟨.free .int,.snil_sl,.free .int,.free .bool,.free .int,.free .bool,.free .int,.snil_sl,trivial⟩
end
section
open Go.Proofs.Tryz (prog)
attribute [local irreducible] CallV RoundV
def nineA:Attrs:=⟨0,[],9,false,0,false,0,[]⟩
def nineV:V:=.agg [.int .u8 0,.snil,.int .u32 9,.bool false,.int .u32 0,.bool false,.int .u32 0,.snil]
theorem LeV.nineA {h:Heap} {nx nx':Nat} {ρ:Nat→Nat} {Z:List Nat} {fr:Bool}:LeV h nx ρ nx' Z nineV (encA fr nineA):=
 .aggL ⟨.free .int,.snil_sl,.int_of rfl,.free .bool,.free .int,.free .bool,.free .int,.snil_sl,trivial⟩
theorem Ends.ownNil {s:St} {sz:Nat} {fr ex:Bool} {ty:TypeId}:∃v1 h' nx',Ends 0 s .snil v1 h' nx'∧(v1=.osl 0 sz 0 0∧h'=[(0,some (.arr fr ex ty sz []))]∧nx'=1):=
 ⟨.osl 0 sz 0 0,[(0,some (.arr fr ex ty sz []))],1,Ends.of (fun _=>s.nx) [] .osl0 (LeH.of ⟨⟨by omega,.inr ⟨by simp,_,_,_,_,rfl⟩⟩,trivial⟩ (by simp) (fun b hb=>by omega) (by omega) (by simp)),rfl,rfl,rfl⟩
theorem cloneW_ok (fr:Bool) (v:V) (l:List UInt32) (h:IsW fr v l) (hl:l.length≤1000000):OCon prog 71 [v] true false 22 1 l.length (rowsW l):=by
 rcases h with rfl|⟨rfl,rfl⟩
 ·rcases l with _|⟨x,l⟩
  ·refine callV_of (fn:=Go.Proofs.Tryz.f71) (body:=_) tab_ok mixed rfl rfl (by decide) (by simp[Go.Proofs.Tryz.f71]) ?_
   conv=>whnf
   refine⟨?_,?_⟩
   ·conv=>whnf
    exact Ends.ownNil
   ·conv=>whnf
    refine⟨⟨rfl,rfl,rfl,rfl,by decide⟩,by simp,⟨by simp[tab,tabOf,nth],by simp⟩,?_⟩
    conv=>whnf
    exact Ends.own rfl (rowsW_free []) rfl rfl
  ·refine callV_of (fn:=Go.Proofs.Tryz.f71) (body:=_) tab_ok mixed rfl rfl (by decide) (by simp[Go.Proofs.Tryz.f71]) ?_
   conv=>whnf
   refine⟨⟨rfl,rfl,rfl,rfl,by decide⟩,by simp,⟨by simp[tab,tabOf,nth]at *;omega,by simp at *;omega⟩,?_⟩
   conv=>whnf
   exact Ends.own rfl (rowsW_free (x :: l)) (by simp) rfl
 ·refine callV_of (fn:=Go.Proofs.Tryz.f71) (body:=_) tab_ok mixed rfl rfl (by decide) (by simp[Go.Proofs.Tryz.f71]) ?_
  conv=>whnf
  refine⟨?_,?_⟩
  ·conv=>whnf
   exact Ends.ownNil
  ·conv=>whnf
   refine⟨_,⟨rfl,rfl,rfl,rfl,by decide⟩,by simp,⟨by simp[tab,tabOf,nth],by simp⟩,?_⟩
   conv=>whnf
   exact Ends.own rfl (rowsW_free []) rfl rfl
theorem Less.encW {l:List UInt32}:Less (encW true l) (encW false l):=.sl (by simp) rfl fun j v v' h1 h2=>by rw[h1]at h2;cases h2;exact Less.refl _
theorem Less.pair {l1:List UInt32} {v2 v2':V} (h:Less v2 v2'):Less (pairV true l1 v2) (pairV false l1 v2'):=.sl (by simp) rfl fun j v v' h1 h2=>by
 rcases j with _|_|j
 ·simp at h1 h2;subst h1;subst h2;exact .encW
 ·simp at h1 h2;subst h1;subst h2;exact h
 ·simp at h1
theorem legs_less:∀(l:List Leg) (j:Nat) (v v':V),(l.map (encLeg true)).flatten[j]? = some v→(l.map (encLeg false)).flatten[j]? = some v'→Less v v'
 | [],j,v,v',h1,h2=>by simp at h1
 | p :: l,j,v,v',h1,h2=>by
  rcases j with _|_|j
  ·simp[encLeg]at h1 h2;subst h1;subst h2;exact Less.refl _
  ·simp[encLeg]at h1 h2;subst h1;subst h2;exact .encW
  ·simp[encLeg]at h1 h2
   exact legs_less l j v v' (by simpa[encLeg]using h1) (by simpa[encLeg]using h2)
theorem Less.legs {l:List Leg}:Less (encLegs true l) (encLegs false l):=.sl (by simp) (by rw[List.map_map,List.map_map];rfl) (legs_less l)
theorem pairV_cold {l1 l2:List UInt32} {v2:V} (h:IsW false v2 l2):Cold (pairV false l1 v2):=.sl (by
 intro x hx v hv
 simp at hx
 rcases hx with rfl|rfl
 ·simp at hv;subst hv;exact encW_cold _
 ·simp at hv;subst hv;exact h.cold)
theorem encW_rows_free {vs:List V} (h:∀v∈vs,Free v):∀x∈vs.map (fun v=>[v]),∀v∈x,Free v:=by
 intro x hx v hv
 obtain⟨y,hy,rfl⟩:=List.mem_map.1 hx
 simp at hv;subst hv;exact h _ hy
end
section
open Go.Proofs.Tryz (prog)
attribute [local irreducible] CallV RoundV
theorem sameA_refl (a:Attrs):sameA a a=true:=by
 simp[sameA]
end
def legs (v:List UInt8):Option (List (UInt8 × List UInt32)):=
 match v with
 | []=>some []
 | [_]=>none
 | x :: n :: r=>if r.length < 4 * n.toNat then none else(legs (r.drop (4 * n.toNat))).map ((x,numsK r n.toNat) :: ·)
termination_by v.length
decreasing_by simp;omega
def kindOk (x:UInt8):Bool:=x == 1 || x == 2
def legOf (p:UInt8 × List UInt32):Leg:=⟨p.1 == 1,p.2⟩
def pathE (v:List UInt8):Int:=match legs v with
 | none=>294
 | some l=>if l.all (fun p=>kindOk p.1)&& pathOk (l.map legOf)then 0 else 296
def pathA (v:List UInt8):List Leg:=match legs v with
 | none=>[]
 | some l=>l.map legOf
def lowE (c:Nat) (v:List UInt8):Int:=
 if c=1 then(if v.length ≠ 1 then 294 else if 2 < (v.getD 0 0).toNat then 295 else 0)
 else if c=2 then pathE v
 else if c=3 then(if v.length ≠ 4 then 294 else if wordOf v=0 then 297 else 0)
 else if c=4 then(if v.length ≠ 4 then 294 else 0)
 else if c=5 then(if v.length ≠ 4 then 294 else 0)
 else(if v.length=0∨v.length % 4 ≠ 0 then 294 else if 16 < v.length / 4∨rises (numsK v (v.length / 4))=false then 298 else 0)
def lowA (c:Nat) (a:Attrs) (v:List UInt8):Attrs:=
 if c=1 then { a with origin:=v.getD 0 0 }
 else if c=2 then { a with path:=pathA v }
 else if c=3 then { a with next:=wordOf v }
 else if c=4 then { a with hasMed:=true,med:=wordOf v }
 else if c=5 then { a with hasPref:=true,pref:=wordOf v }
 else { a with tags:=numsK v (v.length / 4) }
def flagsI (c:Nat):Int:=if c=1 then 64 else if c=2 then 64 else if c=3 then 64 else if c=5 then 64 else if c=4 then 128 else if c=8 then 192 else -1
def byteN (b:List UInt8) (i:Nat):Nat:=(b.getD i 0).toNat
theorem byteN_lt (b:List UInt8) (i:Nat):byteN b i < 256:=(b.getD i 0).toNat_lt
def lngB (b:List UInt8):Bool:=byteN b 0 / 16 % 2 == 1
def numB (b:List UInt8):Nat:=if lngB b then 256 * byteN b 2 + byteN b 3 else byteN b 2
def atB (b:List UInt8):Nat:=if lngB b then 4 else 3
def headE (b:List UInt8) (last:Nat):Int:=
 if b.length < 3 then 290
 else if lngB b=true∧b.length < 4 then 290
 else if b.length < atB b + numB b then 290
 else if flagsI (byteN b 1) < 0 then 291
 else if(byteN b 0:Int) - (if lngB b then 16 else 0) ≠ flagsI (byteN b 1)∨lngB b ≠ decide (255 < numB b)then 292
 else if byteN b 1≤last then 293 else 0
def valB (b:List UInt8):List UInt8:=(b.drop (atB b)).take (numB b)
def restB (b:List UInt8):List UInt8:=b.drop (atB b + numB b)
theorem restB_lt {b:List UInt8} (h:b ≠ []):(restB b).length < b.length:=by
 have h0:=List.length_pos_iff.2 h
 have:3≤atB b:=by unfold atB;split<;>omega
 simp only[restB,List.length_drop]
 omega
def parseA (b:List UInt8) (last seen:Nat) (a:Attrs):Attrs × Int:=
 if hb:b=[]then(if seen=3 then(a,0)else(noA,299))
 else if headE b last ≠ 0 then(noA,headE b last)
 else if lowE (byteN b 1) (valB b) ≠ 0 then(noA,lowE (byteN b 1) (valB b))
 else parseA (restB b) (byteN b 1) (if byteN b 1≤3 then seen + 1 else seen) (lowA (byteN b 1) a (valB b))
termination_by b.length
decreasing_by exact restB_lt hb
theorem parseA_go {b:List UInt8} {last seen:Nat} {a:Attrs} (hb:b ≠ []) (h:headE b last=0) (h2:lowE (byteN b 1) (valB b)=0) :
  parseA b last seen a=parseA (restB b) (byteN b 1) (if byteN b 1≤3 then seen + 1 else seen) (lowA (byteN b 1) a (valB b)):=by
 rw[parseA,dif_neg hb,if_neg (by simp[h]),if_neg (by simp[h2])]
section
open Go.Proofs.Tryz (prog)
attribute [local irreducible] CallV RoundV
def oneE (b:List UInt8) (last:Nat):Int:=if headE b last ≠ 0 then headE b last else lowE (byteN b 1) (valB b)
theorem LeL.of_eq {h:Heap} {nx:Nat} {ρ:Nat→Nat} {nx':Nat} {Z:List Nat} {cs cs':List V} (e:cs=cs') (hf:∀v∈cs',Free v):LeL h nx ρ nx' Z cs cs':=by subst e;exact LeL.free hf
end
section
open Go.Proofs.Tryz (prog)
attribute [local irreducible] CallV RoundV
structure At (b:List UInt8) where
 rest:List UInt8
 last:Nat
 seen:Nat
 q:Bool
 a:Attrs
 law:parseA b 0 0 noA=parseA rest last seen a
 lim:last < 256
 cnt:seen + rest.length≤b.length
 nop:last < 2→q=false
 nil:q=false→a.path=[]
theorem oneE_zero {b:List UInt8} {last:Nat} (h:oneE b last=0):headE b last=0∧lowE (byteN b 1) (valB b)=0:=by
 unfold oneE at h
 split at h
 ·rename_i h1;exact absurd h h1
 ·rename_i h1;exact⟨by simpa using h1,h⟩
def At.next {b:List UInt8} (k:At b) (hb:k.rest ≠ []) (h:oneE k.rest k.last=0):At b where
 rest:=restB k.rest
 last:=byteN k.rest 1
 seen:=if byteN k.rest 1≤3 then k.seen + 1 else k.seen
 q:=k.q || byteN k.rest 1 == 2
 a:=lowA (byteN k.rest 1) k.a (valB k.rest)
 law:=k.law.trans (parseA_go hb (oneE_zero h).1 (oneE_zero h).2)
 lim:=byteN_lt _ _
 cnt:=by
  have:=restB_lt hb
  have:=k.cnt
  split<;>omega
 nop:=fun hl=>by
  have h1:¬ byteN k.rest 1≤k.last:=by
   have:=(oneE_zero h).1
   unfold headE at this
   intro hle
   rw[if_pos hle]at this
   revert this
   repeat' split
   all_goals decide
  have h2:k.q=false:=k.nop (by omega)
  have h3:(byteN k.rest 1 == 2)=false:=by simp;omega
  rw[h2,h3];rfl
 nil:=fun hq=>by
  have h1:k.q=false:=by cases hk:k.q with|false=>rfl|true=>rw[hk]at hq;cases hq
  have h2:byteN k.rest 1 ≠ 2:=by intro e;rw[h1,e]at hq;cases hq
  have h3:=k.nil h1
  unfold lowA
  repeat' split
  all_goals first|exact h3|contradiction
end
section
open Go.Proofs.Tryz (prog)
attribute [local irreducible] CallV RoundV
theorem rawA_len {a:Attrs} (hf:fewA a=true):(rawA a).length≤20000:=by
 obtain⟨hp,hpl,htl⟩:=fewA_out hf
 have hpb:=pathB_len hp
 have al:∀{f c:UInt8} {v:List UInt8},(attrB f c v).length≤4 + v.length:=fun {f c v}=>by unfold attrB;split<;>simp<;>omega
 have h1:=al (f:=64) (c:=1) (v:=[a.origin])
 have h2:=al (f:=64) (c:=2) (v:=pathB a.path)
 have h3:=al (f:=64) (c:=3) (v:=fourB a.next)
 have h4:(if a.hasMed then attrB 128 4 (fourB a.med)else []).length≤8:=by
  split
  ·exact al
  ·simp
 have h5:(if a.hasPref then attrB 64 5 (fourB a.pref)else []).length≤8:=by
  split
  ·exact al
  ·simp
 have h6:(if 0 < a.tags.length then attrB 192 8 (allB a.tags)else []).length≤244:=by
  split
  ·have:=al (f:=192) (c:=8) (v:=allB a.tags)
   rw[allB_len]at this
   omega
  ·simp
 have e3:(fourB a.next).length=4:=rfl
 have e1:([a.origin]:List UInt8).length=1:=rfl
 simp only[rawA,rawO,List.length_append]
 omega
end
section
open Go.Proofs.Tryz (prog)
attribute [local irreducible] CallV RoundV
theorem less_encW (fr:Bool) {l:List UInt32}:Less (encW fr l) (encW false l):=by
 cases fr with
 | true=>exact .encW
 | false=>exact .refl _
theorem rowsW_ff (b:List UInt32):∀x∈rowsW b,∀v∈x,Free v∧Fresh v:=by
 intro x hx v hv
 obtain⟨y,_,rfl⟩:=List.mem_map.1 hx
 simp at hv;subst hv;exact⟨.int,.int⟩
def ownA (a:Attrs) (b:Nat):V:=.agg [cB a.origin,.osl b 2 0 a.path.length,cW a.next,.bool a.hasMed,cW a.med,.bool a.hasPref,cW a.pref,encW true a.tags]
def ownT (a:Attrs) (b:Nat):V:=.agg [cB a.origin,encLegs true a.path,cW a.next,.bool a.hasMed,cW a.med,.bool a.hasPref,cW a.pref,.osl b 1 0 a.tags.length]
def rawC (a:Attrs):V:=.agg [cB a.origin,.osl 0 2 0 a.path.length,cW a.next,.bool a.hasMed,cW a.med,.bool a.hasPref,cW a.pref,.osl 1 1 0 a.tags.length]
theorem ownT_mov (a:Attrs):Mov (ownT a):=by
 refine Mov.agg (cs:=[fun _=>cB a.origin,fun _=>encLegs true a.path,fun _=>cW a.next,fun _=>.bool a.hasMed,fun _=>cW a.med,fun _=>.bool a.hasPref,fun _=>cW a.pref,fun b=>.osl b 1 0 a.tags.length]) ?_
 intro c hc
 simp only[List.mem_cons,List.not_mem_nil,or_false]at hc
 rcases hc with rfl|rfl|rfl|rfl|rfl|rfl|rfl|rfl
 ·exact .const .int .int
 ·exact .const (encLegs_free _ _) (encLegs_fresh _)
 ·exact .const .int .int
 ·exact .const .bool .bool
 ·exact .const .int .int
 ·exact .const .bool .bool
 ·exact .const .int .int
 ·exact .osl
theorem ownA_mov (a:Attrs):Mov (ownA a):=by
 refine Mov.agg (cs:=[fun _=>cB a.origin,fun b=>.osl b 2 0 a.path.length,fun _=>cW a.next,fun _=>.bool a.hasMed,fun _=>cW a.med,fun _=>.bool a.hasPref,fun _=>cW a.pref,fun _=>encW true a.tags]) ?_
 intro c hc
 simp only[List.mem_cons,List.not_mem_nil,or_false]at hc
 rcases hc with rfl|rfl|rfl|rfl|rfl|rfl|rfl|rfl
 ·exact .const .int .int
 ·exact .osl
 ·exact .const .int .int
 ·exact .const .bool .bool
 ·exact .const .int .int
 ·exact .const .bool .bool
 ·exact .const .int .int
 ·exact .const (encW_free _ _) (encW_fresh _)
theorem cloneL_ok (fr:Bool) (l:List Leg) (hl:l.length≤1000):OCon prog 70 [encLegs fr l] true false 91 2 l.length (l.map (encLeg fr)):=by
 rcases l with _|⟨x,l⟩
 ·refine callV_of (fn:=Go.Proofs.Tryz.f70) (body:=_) tab_ok mixed rfl rfl (by decide) (by simp[Go.Proofs.Tryz.f70]) ?_
  conv=>whnf
  refine⟨?_,?_⟩
  ·conv=>whnf
   exact Ends.ownNil
  ·conv=>whnf
   refine⟨⟨rfl,rfl,rfl,rfl,by decide⟩,by simp,⟨by simp[tab,tabOf,nth],by simp⟩,?_⟩
   conv=>whnf
   exact Ends.own rfl (by simp) rfl rfl
 ·refine callV_of (fn:=Go.Proofs.Tryz.f70) (body:=_) tab_ok mixed rfl rfl (by decide) (by simp[Go.Proofs.Tryz.f70]) ?_
  conv=>whnf
  refine⟨⟨rfl,rfl,rfl,rfl,by decide⟩,by simp,⟨by simp[tab,tabOf,nth]at *;omega,by simp at *;omega⟩,?_⟩
  conv=>whnf
  exact Ends.own rfl (rowsLegs_free fr (x :: l)) (by simp) rfl
theorem copy_raw (fr:Bool) (a:Attrs) (hpl:a.path.length≤1000) (hp:∀p∈a.path,p.ns.length≤1000) (htl:a.tags.length≤1000):CallV prog 38 [encA fr a] [] 0 (fun v h' nx'=>v=rawC a∧h'=[(0,some (.arr true false 91 2 (a.path.map (encLeg true)))),(1,some (.arr true false 22 1 (rowsW a.tags)))]∧nx'=2):=by
 have cell:∀{fr0:Bool} {x:Attrs},FreeB (.var true 35 (cellsA fr0 x)):=fun {fr0 x}=>cellsA_free fr0 x
 refine callV_of (fn:=Go.Proofs.Tryz.f38) (body:=_) tab_ok mixed rfl rfl (by decide) (by simp[Go.Proofs.Tryz.f38]) ?_
 conv=>whnf
 refine callV_own0 (nx:=2) (cloneL_ok fr a.path hpl) ⟨.free (encLegs_free _ _),trivial⟩ (rowsLegs_free _ _) ?_
 conv=>whnf
 intro _
 conv=>whnf
 refine vcg_loop tab_ok mixed (fun i:{i:Nat // i≤a.path.length}=>⟨[(1,.ptr 0 0),(2,.ptr 1 0),(3,.osl 2 2 0 a.path.length),(9,cI a.path.length),(10,cI i.1)],[(0,some (.var true 35 (cellsA fr a))),(1,some (.var true 35 zeroA)),(2,some (.arr true false 91 2 (rowsAt fr a.path i.1)))],3⟩) (fun i=>a.path.length - i.1) ⟨0,by omega⟩ ?_ (fun i=>?_)
 ·refine Wk.of id [] ⟨.ptr rfl (by omega),.ptr rfl (by omega),.osl rfl (by omega),.int_of rfl,.int_of rfl,trivial⟩ (LeH.of ⟨⟨by omega,.inl ⟨by simp,_,rfl,LeB.free cell⟩⟩,⟨by omega,.inl ⟨by simp,_,rfl,LeB.free zeroA_free⟩⟩,⟨by omega,.inl ⟨by simp,_,rfl,LeB.eq_of (by simp[rowsAt]) (rowsAt_free _ _ _)⟩⟩,trivial⟩ (fun _ _ _ _ h=>h) (fun _ _=>rfl) (by omega) (by simp))
 obtain⟨i,hi⟩:=i
 conv=>whnf
 split
 ·rename_i hc
  have hc:i < a.path.length:=by simpa using hc
  have hpi:=hp a.path[i] (List.getElem_mem hc)
  have hget:(rowsAt fr a.path i)[0 + (i:Int).toNat]? = some (encLeg fr a.path[i]):=by simpa using rowsAt_get hc
  conv=>whnf
  refine⟨rfl,⟨by simp only;omega,by simp only;omega⟩,?_⟩
  conv=>whnf
  refine⟨rfl,encLeg fr a.path[i],hget,?_⟩
  conv=>whnf
  refine callV_own (nx:=3) [] (cloneW_ok false _ a.path[i].ns (.inl rfl) (by omega)) ⟨.less (.free (encW_free fr _)) (less_encW fr),trivial⟩ (by intro v hv;simp at hv;subst hv;exact encW_cold _) (by simp) (rowsW_ff _) ?_
  conv=>whnf
  refine⟨rfl,⟨by simp only;omega,by simp only;omega⟩,?_⟩
  conv=>whnf
  refine⟨rfl,encLeg fr a.path[i],hget,?_⟩
  conv=>whnf
  refine⟨⟨i + 1,by omega⟩,Wk.of id [3] ⟨.ptr rfl (by omega),.ptr rfl (by omega),.osl rfl (by omega),.int_of rfl,.int_of (wrap64_succ hc (show a.path.length≤maxLen by unfold maxLen;omega)),trivial⟩ (LeH.of ⟨⟨by omega,.inl ⟨by simp,_,rfl,LeB.free cell⟩⟩,⟨by omega,.inl ⟨by simp,_,rfl,LeB.free zeroA_free⟩⟩,⟨by omega,.inl ⟨by simp,_,rfl,?_⟩⟩,trivial⟩ (fun _ _ _ _ h=>h) (fun _ _=>rfl) (by omega) (fun z hz=>by obtain rfl:=List.mem_singleton.1 hz;exact ne_none_of rfl)),by simp only;omega⟩
  simp only
  rw[rowsAt_succ hc]
  simp only[Nat.zero_add,Int.toNat_natCast]
  refine LeB.set (rowsAt_free _ _ _) ⟨.free .bool,?_,trivial⟩
  refine LeV.freeze_of (by simp) rfl (by simp) (rowsW_free _) ?_
  exact List.take_of_length_le (by simp)
 ·rename_i hc
  have hc:i=a.path.length:=by simp at hc;omega
  subst hc
  conv=>whnf
  refine callV_own (nx:=3) [] (cloneW_ok false _ a.tags (.inl rfl) (by omega)) ⟨.less (.free (encW_free fr _)) (less_encW fr),trivial⟩ (by intro v hv;simp at hv;subst hv;exact encW_cold _) (by simp) (rowsW_ff _) ?_
  conv=>whnf
  refine⟨rawC a,_,2,Ends.of (fun b=>b + 2) [] (.aggL ⟨.free .int,.osl rfl (by omega),.free .int,.free .bool,.free .int,.free .bool,.free .int,.osl rfl (by omega),trivial⟩) (LeH.of (h':=[(0,some (.arr true false 91 2 (a.path.map (encLeg true)))),(1,some (.arr true false 22 1 (rowsW a.tags)))]) ⟨⟨by omega,.inl ⟨by simp,_,rfl,LeB.eq_of ?_ (rowsLegs_free _ _)⟩⟩,⟨by omega,.inl ⟨by simp,_,rfl,LeB.free (rowsW_free _)⟩⟩,trivial⟩ (by simp) (fun b hb=>by omega) (by omega) (by simp)),rfl,rfl,rfl⟩
  simp only[rowsAt_all]
theorem copy_ok (fr:Bool) (a:Attrs) (hpl:a.path.length≤1000) (hp:∀p∈a.path,p.ns.length≤1000) (htl:a.tags.length≤1000):VCon prog 38 [encA fr a] (ownA a) (.arr true false 91 2 (a.path.map (encLeg true))):=
 (copy_raw fr a hpl hp htl).ends fun v h' nx' ⟨e1,e2,e3⟩=>by
  subst e1 e2 e3
  exact⟨ownA a 0,_,1,Ends.of id [1] (.aggL ⟨.free .int,.osl rfl (by omega),.free .int,.free .bool,.free .int,.free .bool,.free .int,LeV.freeze_of (by simp) rfl (by simp) (rowsW_free _) (List.take_of_length_le (by simp)),trivial⟩) (LeH.of (h':=[(0,some (.arr true false 91 2 (a.path.map (encLeg true))))]) ⟨⟨by omega,.inl ⟨by simp,_,rfl,LeB.free (rowsLegs_free _ _)⟩⟩,trivial⟩ (by simp) (fun b hb=>by omega) (by omega) (one_none rfl)),rfl,rfl,rfl⟩
theorem copyT_ok (fr:Bool) (a:Attrs) (hpl:a.path.length≤1000) (hp:∀p∈a.path,p.ns.length≤1000) (htl:a.tags.length≤1000):VCon prog 38 [encA fr a] (ownT a) (.arr true false 22 1 (rowsW a.tags)):=
 (copy_raw fr a hpl hp htl).ends fun v h' nx' ⟨e1,e2,e3⟩=>by
  subst e1 e2 e3
  exact⟨ownT a 0,_,1,Ends.of (fun _=>1) [0] (.aggL ⟨.free .int,LeV.freeze_of (by simp) rfl (by simp) (rowsLegs_free _ _) (List.take_of_length_le (by simp)),.free .int,.free .bool,.free .int,.free .bool,.free .int,.osl rfl (by omega),trivial⟩) (LeH.of (h':=[(0,some (.arr true false 22 1 (rowsW a.tags)))]) ⟨⟨by omega,.inl ⟨by simp,_,rfl,LeB.free (rowsW_free _)⟩⟩,trivial⟩ (by simp) (fun b hb=>by omega) (by omega) (one_none rfl)),rfl,rfl,rfl⟩
theorem ownA_freeze {h:Heap} {nx nx' b:Nat} {ρ:Nat→Nat} {Z:List Nat} {fr ex:Bool} {a:Attrs} (hz:b∈Z) (hb:hget h b=some (.arr true ex 91 2 (a.path.map (encLeg true)))):LeV h nx ρ nx' Z (ownA a b) (encA true a):=
 .aggL ⟨.free .int,LeV.freeze_of hz hb (by simp) (rowsLegs_free _ _) (List.take_of_length_le (by simp)),.free .int,.free .bool,.free .int,.free .bool,.free .int,.free (encW_free _ _),trivial⟩
theorem copy_pure (fr:Bool) (a:Attrs) (hpl:a.path.length≤1000) (hp:∀p∈a.path,p.ns.length≤1000) (htl:a.tags.length≤1000):PCon prog 38 [encA fr a] (encA true a):=
 (copy_ok fr a hpl hp htl).ends fun v h' nx' ⟨e1,e2,e3⟩=>by
  subst e1 e2 e3
  exact Ends.pure (s:=⟨[],[(0,some (.arr true false 91 2 (a.path.map (encLeg true))))],1⟩) [0] (ownA_freeze (fr:=true) (by simp) rfl) (by intro z hz;simp at hz;subst hz;simp[hget])
theorem systems_ok (fr:Bool) (a:Attrs) (hpl:a.path.length≤1000) (hp:∀p∈a.path,p.ns.length≤1000) (htl:a.tags.length≤1000):PCon prog 243 [encA fr a] (.fn (.func 254) [] [.iptr true [encLegs true a.path]]):=by
 refine callV_of (fn:=Go.Proofs.Tryz.f243) (body:=_) tab_ok mixed rfl rfl (by decide) (by simp[Go.Proofs.Tryz.f243]) ?_
 conv=>whnf
 refine callV_pure (copy_pure fr a hpl hp htl) ⟨.free (encA_free _ _),trivial⟩ ?_
 conv=>whnf
 refine Ends.pure [1] ?_ (one_none rfl)
 refine LeV.fnL trivial ⟨?_,trivial⟩
 exact LeV.freezeP (cells:=[encLegs true a.path]) (by simp) rfl (by intro v hv;simp at hv;subst hv;exact encLegs_free _ _)
end
section
open Go.Proofs.Tryz (prog)
attribute [local irreducible] CallV RoundV
def hasN (l:List UInt32) (x:UInt32):Bool:=l.any (· == x)
def hasA (l:List Leg) (x:UInt32):Bool:=l.any (fun p=>hasN p.ns x)
theorem hasN_succ {l:List UInt32} {x:UInt32} {k:Nat} (hk:k < l.length) (h:hasN (l.take k) x=false) (he:(l[k] == x)=false):hasN (l.take (k + 1)) x=false:=by
 unfold hasN at *
 rw[List.take_succ_eq_append_getElem hk,List.any_append,h]
 simpa using he
theorem hasA_succ {l:List Leg} {x:UInt32} {i:Nat} (hi:i < l.length) (h:hasA (l.take i) x=false) (he:hasN l[i].ns x=false):hasA (l.take (i + 1)) x=false:=by
 unfold hasA at *
 rw[List.take_succ_eq_append_getElem hi,List.any_append,h]
 simpa using he
theorem hasA_yes {l:List Leg} {x:UInt32} {i k:Nat} (hi:i < l.length) (hk:k < l[i].ns.length) (he:l[i].ns[k]=x):hasA l x=true:=by
 unfold hasA hasN
 rw[List.any_eq_true]
 exact⟨l[i],List.getElem_mem hi,List.any_eq_true.2 ⟨_,List.getElem_mem hk,by simp[he]⟩⟩
theorem has_ok (fr:Bool) (a:Attrs) (x:UInt32) (hpl:a.path.length≤1000) (hp:∀p∈a.path,p.ns.length≤1000) (htl:a.tags.length≤1000):PCon prog 227 [encA fr a,cW x] (.bool (hasA a.path x)):=by
 have fin:∀{s:St} {r:Bool},hasA a.path x=r→∃v1 h' nx',Ends 0 s (.bool r) v1 h' nx'∧(v1=.bool (hasA a.path x)∧h'=[]∧nx'=0):=fun h=>Ends.pure [] (.bool_of h.symm) (by simp)
 refine callV_of (fn:=Go.Proofs.Tryz.f227) (body:=_) tab_ok mixed rfl rfl (by decide) (by simp[Go.Proofs.Tryz.f227]) ?_
 conv=>whnf
 refine callV_pure (systems_ok fr a hpl hp htl) ⟨.free (encA_free _ _),trivial⟩ ?_
 conv=>whnf
 refine callV_loop [(3,.ptr 1 0),(4,.ptr 2 0)] ⟨rfl,rfl,trivial⟩ fun asg' body' hasg hbody=>?_
 refine callV_of (fn:=Go.Proofs.Tryz.f254) (body:=_) tab_ok mixed rfl rfl (by decide) (by simp[Go.Proofs.Tryz.f254]) ?_
 conv=>whnf
 intro _
 conv=>whnf
 refine vcg_loop tab_ok mixed (fun i:{i:Nat // i≤a.path.length∧hasA (a.path.take i) x=false}=>⟨[(0,.yld 3),(7,encLegs true a.path),(8,cI a.path.length),(9,cI i.1)],[(3,some (.loop 14 [(3,.ptr 1 0),(4,.ptr 2 0)] [9,10] asg' body' .ready none)),(1,some (.var true 22 [cW x])),(2,some (.var true 4 [.bool false]))],4⟩) (fun i=>a.path.length - i.1) ⟨0,by omega,rfl⟩ ?_ (fun i=>?_)
 ·exact Wk.of id [] ⟨.yld rfl (by omega),.free (encLegs_free _ _),.int_of (by simp),.int_of rfl,trivial⟩ (LeH.of ⟨⟨by omega,.inl ⟨by simp,_,rfl,rfl,rfl,rfl,rfl,rfl,rfl,.ptr rfl (by omega),.ptr rfl (by omega),trivial⟩⟩,⟨by omega,.inl ⟨by simp,_,rfl,id,rfl,.int_of rfl,trivial⟩⟩,⟨by omega,.inl ⟨by simp,_,rfl,id,rfl,.bool_of rfl,trivial⟩⟩,trivial⟩ (fun _ _ _ _ h=>h) (fun _ _=>rfl) (by omega) (by simp))
 obtain⟨i,hi,hn⟩:=i
 conv=>whnf
 split
 ·rename_i hc
  have hc:i < a.path.length:=by simpa using hc
  have hpi:=hp a.path[i] (List.getElem_mem hc)
  conv=>whnf
  refine ixK (idxL hc) ?_
  conv=>whnf
  intro _
  conv=>whnf
  refine vcg_loop tab_ok mixed (fun k:{k:Nat // k≤a.path[i].ns.length∧hasN (a.path[i].ns.take k) x=false}=>⟨[(0,.yld 3),(3,cI i),(7,encLegs true a.path),(8,cI a.path.length),(9,cI i),(15,encW true a.path[i].ns),(16,cI a.path[i].ns.length),(17,cI k.1)],[(3,some (.loop 14 [(3,.ptr 1 0),(4,.ptr 2 0)] [9,10] asg' body' .ready none)),(1,some (.var true 22 [cW x])),(2,some (.var true 4 [.bool false]))],5⟩) (fun k=>a.path[i].ns.length - k.1) ⟨0,by omega,rfl⟩ ?_ (fun k=>?_)
  ·exact Wk.of id [] ⟨.yld rfl (by omega),.int_of rfl,.free (encLegs_free _ _),.int_of rfl,.int_of rfl,.free (encW_free _ _),.int_of (by simp),.int_of rfl,trivial⟩ (LeH.of ⟨⟨by omega,.inl ⟨by simp,_,rfl,rfl,rfl,rfl,rfl,rfl,rfl,.ptr rfl (by omega),.ptr rfl (by omega),trivial⟩⟩,⟨by omega,.inl ⟨by simp,_,rfl,id,rfl,.int_of rfl,trivial⟩⟩,⟨by omega,.inl ⟨by simp,_,rfl,id,rfl,.bool_of rfl,trivial⟩⟩,trivial⟩ (fun _ _ _ _ h=>h) (fun _ _=>rfl) (by omega) (by simp))
  obtain⟨k,hk,hnk⟩:=k
  conv=>whnf
  split
  ·rename_i hck
   have hck:k < a.path[i].ns.length:=by simpa using hck
   conv=>whnf
   refine ixK (idxW hck) ?_
   conv=>whnf
   subst hasg hbody
   refine roundV_of tab_ok mixed rfl (by simp) (show 3 < 5 by omega) ?_
   conv=>whnf
   refine⟨rfl,?_⟩
   conv=>whnf
   split
   ·rename_i he
    conv=>whnf
    refine⟨rfl,?_⟩
    conv=>whnf
    refine⟨_,_,_,Ends.here,?_⟩
    conv=>whnf
    refine fin (hasA_yes hc hck ?_)
    refine UInt32.toNat_inj.1 ?_
    simp at he
    omega
   ·rename_i he
    have he:(a.path[i].ns[k] == x)=false:=by
     rw[beq_eq_false_iff_ne]
     intro e
     rw[e]at he
     simp at he
    conv=>whnf
    refine⟨rfl,?_⟩
    conv=>whnf
    refine⟨⟨k + 1,by omega,hasN_succ hck hnk he⟩,Wk.of id [] ⟨.yld rfl (by omega),.int_of rfl,.free (encLegs_free _ _),.int_of rfl,.int_of rfl,.free (encW_free _ _),.int_of rfl,.int_of (wrap64_succ hck (show a.path[i].ns.length≤maxLen by unfold maxLen;omega)),trivial⟩ (LeH.of ⟨⟨by omega,.inl ⟨by simp,_,rfl,rfl,rfl,rfl,rfl,rfl,rfl,.ptr rfl (by omega),.ptr rfl (by omega),trivial⟩⟩,⟨by omega,.inl ⟨by simp,_,rfl,id,rfl,.int_of rfl,trivial⟩⟩,⟨by omega,.inl ⟨by simp,_,rfl,id,rfl,.bool_of rfl,trivial⟩⟩,trivial⟩ (fun _ _ _ _ h=>h) (fun _ _=>rfl) (by omega) (by simp)),by simp only;omega⟩
  ·rename_i hck
   have hck:k=a.path[i].ns.length:=by simp at hck;omega
   conv=>whnf
   refine⟨⟨i + 1,by omega,?_⟩,Wk.of id [] ⟨.yld rfl (by omega),.free (encLegs_free _ _),.int_of rfl,.int_of (wrap64_succ hc (show a.path.length≤maxLen by unfold maxLen;omega)),trivial⟩ (LeH.of ⟨⟨by omega,.inl ⟨by simp,_,rfl,rfl,rfl,rfl,rfl,rfl,rfl,.ptr rfl (by omega),.ptr rfl (by omega),trivial⟩⟩,⟨by omega,.inl ⟨by simp,_,rfl,id,rfl,.int_of rfl,trivial⟩⟩,⟨by omega,.inl ⟨by simp,_,rfl,id,rfl,.bool_of rfl,trivial⟩⟩,trivial⟩ (fun _ _ _ _ h=>h) (fun _ _=>rfl) (by omega) (by simp)),by simp only;omega⟩
   rw[hck,List.take_length]at hnk
   exact hasA_succ hc hn hnk
 ·rename_i hc
  have hc:i=a.path.length:=by simp at hc;omega
  rw[hc,List.take_length]at hn
  conv=>whnf
  refine⟨_,_,_,Ends.here,?_⟩
  conv=>whnf
  exact fin hn
theorem ref_has_ok (fr:Bool) (a:Attrs) (x:UInt32) (hpl:a.path.length≤1000) (hp:∀p∈a.path,p.ns.length≤1000):PCon prog 212 [encA fr a,cW x] (.bool (hasA a.path x)):=by
 have fin:∀{s:St} {r:Bool},hasA a.path x=r→∃v1 h' nx',Ends 0 s (.bool r) v1 h' nx'∧(v1=.bool (hasA a.path x)∧h'=[]∧nx'=0):=fun h=>Ends.pure [] (.bool_of h.symm) (by simp)
 have cell:∀{fr0:Bool} {x:Attrs},FreeB (.var true 35 (cellsA fr0 x)):=fun {fr0 x}=>cellsA_free fr0 x
 refine callV_of (fn:=Go.Proofs.Tryz.f212) (body:=_) tab_ok mixed rfl rfl (by decide) (by simp[Go.Proofs.Tryz.f212]) ?_
 conv=>whnf
 refine vcg_loop tab_ok mixed (fun i:{i:Nat // i≤a.path.length∧hasA (a.path.take i) x=false}=>⟨[(1,cW x),(2,.ptr 0 0),(5,cI i.1)],[(0,some (.var true 35 (cellsA fr a)))],1⟩) (fun i=>a.path.length - i.1) ⟨0,by omega,rfl⟩ (Wk.of id [] ⟨.int_of rfl,.ptr rfl (by omega),.int_of rfl,trivial⟩ (LeH.of ⟨⟨by omega,.inl ⟨by simp,_,rfl,LeB.free cell⟩⟩,trivial⟩ (fun _ _ _ _ h=>h) (fun _ _=>rfl) (by omega) (by simp))) (fun i=>?_)
 obtain⟨i,hi,hn⟩:=i
 conv=>whnf
 intro hl
 have hl:a.path.length≤maxLen:=by simpa[gd]using hl
 conv=>whnf
 split
 ·rename_i hc
  have hc:i < a.path.length:=by simpa using hc
  have hpi:=hp a.path[i] (List.getElem_mem hc)
  conv=>whnf
  refine vcg_loop tab_ok mixed (fun k:{k:Nat // k≤a.path[i].ns.length∧hasN (a.path[i].ns.take k) x=false}=>⟨[(1,cW x),(2,.ptr 0 0),(5,cI i),(6,cI k.1)],[(0,some (.var true 35 (cellsA fr a)))],1⟩) (fun k=>a.path[i].ns.length - k.1) ⟨0,by omega,rfl⟩ (Wk.of id [] ⟨.int_of rfl,.ptr rfl (by omega),.int_of rfl,.int_of rfl,trivial⟩ (LeH.of ⟨⟨by omega,.inl ⟨by simp,_,rfl,LeB.free cell⟩⟩,trivial⟩ (fun _ _ _ _ h=>h) (fun _ _=>rfl) (by omega) (by simp))) (fun k=>?_)
  obtain⟨k,hk,hnk⟩:=k
  conv=>whnf
  refine ixK (idxL hc) ?_
  conv=>whnf
  intro _
  conv=>whnf
  split
  ·rename_i hck
   have hck:k < a.path[i].ns.length:=by simpa using hck
   conv=>whnf
   refine ixK (idxL hc) ?_
   conv=>whnf
   refine ixK (idxW hck) ?_
   conv=>whnf
   split
   ·rename_i he
    conv=>whnf
    refine fin (hasA_yes hc hck ?_)
    refine UInt32.toNat_inj.1 ?_
    simp at he
    omega
   ·rename_i he
    have he:(a.path[i].ns[k] == x)=false:=by
     rw[beq_eq_false_iff_ne]
     intro e
     rw[e]at he
     simp at he
    conv=>whnf
    exact⟨⟨k + 1,by omega,hasN_succ hck hnk he⟩,Wk.of id [] ⟨.int_of rfl,.ptr rfl (by omega),.int_of rfl,.int_of (wrap64_succ hck (show a.path[i].ns.length≤maxLen by unfold maxLen;omega)),trivial⟩ (LeH.of ⟨⟨by omega,.inl ⟨by simp,_,rfl,LeB.free cell⟩⟩,trivial⟩ (fun _ _ _ _ h=>h) (fun _ _=>rfl) (by omega) (by simp)),by simp only;omega⟩
  ·rename_i hck
   have hck:k=a.path[i].ns.length:=by simp at hck;omega
   conv=>whnf
   refine⟨⟨i + 1,by omega,?_⟩,Wk.of id [] ⟨.int_of rfl,.ptr rfl (by omega),.int_of (wrap64_succ hc (show a.path.length≤maxLen by unfold maxLen;omega)),trivial⟩ (LeH.of ⟨⟨by omega,.inl ⟨by simp,_,rfl,LeB.free cell⟩⟩,trivial⟩ (fun _ _ _ _ h=>h) (fun _ _=>rfl) (by omega) (by simp)),by simp only;omega⟩
   rw[hck,List.take_length]at hnk
   exact hasA_succ hc hn hnk
 ·rename_i hc
  have hc:i=a.path.length:=by simp at hc;omega
  rw[hc,List.take_length]at hn
  conv=>whnf
  exact fin hn
end
section
open Go.Proofs.Tryz (prog)
attribute [local irreducible] CallV RoundV
def Go (tn:Nat) (many:Int) (n:Nat):Prop:=tn=0→n=0∨(n:Int) < many
end
section
open Go.Proofs.Tryz (prog)
attribute [local irreducible] CallV RoundV
theorem w_eq {x y:UInt32}:((x.toNat:Int) == (y.toNat:Int))=(x == y):=by
 have:=u32_neq (x:=x) (y:=y)
 simpa[bne]using this
theorem b_eq {x y:UInt8}:((x.toNat:Int) == (y.toNat:Int))=(x == y):=by
 have:=u8_neq (x:=x) (y:=y)
 simpa[bne]using this
theorem take_step {α:Type} {l m:List α} {i:Nat} (h1:i < l.length) (h2:i < m.length) (hr:l.take i=m.take i) (he:l[i]=m[i]):l.take (i + 1)=m.take (i + 1):=by
 rw[List.take_succ_eq_append_getElem h1,List.take_succ_eq_append_getElem h2,hr,he]
theorem equal_ok (fr fr':Bool) (a b:List UInt32):PCon prog 100 [encW fr a,encW fr' b] (.bool (decide (a=b))):=by
 refine callV_of (fn:=Go.Proofs.Tryz.f100) (body:=_) tab_ok mixed rfl rfl (by decide) (by simp[Go.Proofs.Tryz.f100]) ?_
 conv=>whnf
 intro ha
 have ha:a.length≤maxLen:=by simpa[gd]using ha
 conv=>whnf
 intro hb
 conv=>whnf
 split
 ·rename_i hne
  conv=>whnf
  refine Ends.pure [] (.bool_of ?_) (by simp)
  symm
  rw[decide_eq_false_iff_not]
  rintro rfl
  simp at hne
 ·rename_i hne
  have hlen:a.length=b.length:=by simp at hne;omega
  conv=>whnf
  intro _
  conv=>whnf
  refine vcg_loop tab_ok mixed (fun i:{i:Nat // i≤a.length∧a.take i=b.take i}=>⟨[(0,encW fr a),(1,encW fr' b),(12,cI a.length),(13,.int .i64 i.1)],[],0⟩) (fun i=>a.length - i.1) ⟨0,by omega,rfl⟩ (Wk.of id [] ⟨.free (encW_free _ _),.free (encW_free _ _),.int_of (by simp),.int_of rfl,trivial⟩ (LeH.nil (Nat.le_refl _) (fun b h=>by omega) (by simp))) (fun i=>?_)
  obtain⟨i,hi,hr⟩:=i
  conv=>whnf
  split
  ·rename_i hc
   have hc:i < a.length:=by simpa using hc
   conv=>whnf
   refine ixK (idxW hc) ?_
   conv=>whnf
   refine ixK (idxW (show i < b.length by omega)) ?_
   conv=>whnf
   refine⟨by kernel_rfl,?_⟩
   conv=>whnf
   split
   ·rename_i h1
    conv=>whnf
    refine Ends.pure [] (.bool_of ?_) (by simp)
    symm
    rw[decide_eq_false_iff_not]
    rintro rfl
    simp at h1
   ·rename_i h1
    have h1:a[i]=b[i]:=by
     simp at h1
     exact UInt32.toNat_inj.1 (by omega)
    conv=>whnf
    exact⟨⟨i + 1,by omega,take_step hc (by omega) hr h1⟩,Wk.of id [] ⟨.free (encW_free _ _),.free (encW_free _ _),.int_of rfl,.int_of (wrap64_succ hc ha),trivial⟩ (LeH.nil (Nat.le_refl _) (fun b h=>by omega) (by simp)),by simp only;omega⟩
  ·rename_i hc
   have hc:i=a.length:=by simp at hc;omega
   subst hc
   rw[List.take_length,hlen,List.take_length]at hr
   conv=>whnf
   refine Ends.pure [] (.bool_of ?_) (by simp)
   simp[hr]
theorem same1_ok (fr fr':Bool) (p q:Leg):PCon prog 99 [.agg (encLeg fr p),.agg (encLeg fr' q)] (.bool (decide (p=q))):=by
 obtain⟨ps,pn⟩:=p
 obtain⟨qs,qn⟩:=q
 refine callV_of (fn:=Go.Proofs.Tryz.f99) (body:=_) tab_ok mixed rfl rfl (by decide) (by simp[Go.Proofs.Tryz.f99]) ?_
 conv=>whnf
 split
 ·rename_i h
  have h:ps=qs:=by simpa using h
  conv=>whnf
  refine callV_pure (equal_ok fr fr' pn qn) ⟨.free (encW_free _ _),.free (encW_free _ _),trivial⟩ ?_
  conv=>whnf
  refine Ends.pure [] (.bool_of ?_) (by simp)
  simp[h]
 ·rename_i h
  have h:ps ≠ qs:=by simpa using h
  conv=>whnf
  refine Ends.pure [] (.bool_of ?_) (by simp)
  simp[h]
theorem equalFunc_ok (fr fr':Bool) (a b:List Leg):PCon prog 101 [encLegs fr a,encLegs fr' b,.fn (.func 99) [] []] (.bool (decide (a=b))):=by
 refine callV_of (fn:=Go.Proofs.Tryz.f101) (body:=_) tab_ok mixed rfl rfl (by decide) (by simp[Go.Proofs.Tryz.f101]) ?_
 conv=>whnf
 intro ha
 have ha:a.length≤maxLen:=by simpa[gd]using ha
 conv=>whnf
 intro hb
 conv=>whnf
 split
 ·rename_i hne
  conv=>whnf
  refine Ends.pure [] (.bool_of ?_) (by simp)
  symm
  rw[decide_eq_false_iff_not]
  rintro rfl
  simp at hne
 ·rename_i hne
  have hlen:a.length=b.length:=by simp at hne;omega
  conv=>whnf
  intro _
  conv=>whnf
  refine vcg_loop tab_ok mixed (fun i:{i:Nat // i≤a.length∧a.take i=b.take i}=>⟨[(1,encLegs fr' b),(2,.fn (.func 99) [] []),(15,encLegs fr a),(16,cI a.length),(17,.int .i64 i.1)],[],0⟩) (fun i=>a.length - i.1) ⟨0,by omega,rfl⟩ (Wk.of id [] ⟨.free (encLegs_free _ _),.free (.fn (by simp) (by simp)),.free (encLegs_free _ _),.int_of (by simp),.int_of rfl,trivial⟩ (LeH.nil (Nat.le_refl _) (fun b h=>by omega) (by simp))) (fun i=>?_)
  obtain⟨i,hi,hr⟩:=i
  conv=>whnf
  split
  ·rename_i hc
   have hc:i < a.length:=by simpa using hc
   have hc':i < b.length:=by omega
   conv=>whnf
   refine ixK (idxL hc) ?_
   conv=>whnf
   refine ixK (idxL hc') ?_
   conv=>whnf
   refine callV_pure (same1_ok fr fr' a[i] b[i]) ⟨.free (.agg (encLeg_free _ _)),.free (.agg (encLeg_free _ _)),trivial⟩ ?_
   conv=>whnf
   split
   ·rename_i h1
    conv=>whnf
    refine Ends.pure [] (.bool_of ?_) (by simp)
    symm
    rw[decide_eq_false_iff_not]
    rintro rfl
    simp at h1
   ·rename_i h1
    have h1:a[i]=b[i]:=by simpa using h1
    conv=>whnf
    exact⟨⟨i + 1,by omega,take_step hc hc' hr h1⟩,Wk.of id [] ⟨.free (encLegs_free _ _),.free (.fn (by simp) (by simp)),.free (encLegs_free _ _),.int_of rfl,.int_of (wrap64_succ hc ha),trivial⟩ (LeH.nil (Nat.le_refl _) (fun b h=>by omega) (by simp)),by simp only;omega⟩
  ·rename_i hc
   have hc:i=a.length:=by simp at hc;omega
   subst hc
   rw[List.take_length,hlen,List.take_length]at hr
   conv=>whnf
   refine Ends.pure [] (.bool_of ?_) (by simp)
   simp[hr]
theorem same_ok (fr fr':Bool) (a b:Attrs):PCon prog 53 [encA fr a,encA fr' b] (.bool (sameA a b)):=by
 refine callV_of (fn:=Go.Proofs.Tryz.f53) (body:=_) tab_ok mixed rfl rfl (by decide) (by simp[Go.Proofs.Tryz.f53]) ?_
 have fin:∀{s:St} {r:Bool},sameA a b=r→∃v1 h' nx',Ends 0 s (.bool r) v1 h' nx'∧(v1=.bool (sameA a b)∧h'=[]∧nx'=0):=fun h=>Ends.pure [] (.bool_of h.symm) (by simp)
 conv=>whnf
 repeat' first
  | refine fin ?_
  | (split<;>(conv=>whnf))
  | (refine callV_pure (equalFunc_ok fr fr' a.path b.path) ⟨.free (encLegs_free _ _),.free (encLegs_free _ _),.free (.fn (by simp) (by simp)),trivial⟩ ?_;(conv=>whnf))
  | (refine callV_pure (equal_ok fr fr' a.tags b.tags) ⟨.free (encW_free _ _),.free (encW_free _ _),trivial⟩ ?_;(conv=>whnf))
 any_goals (clear fin;simp only[sameA,decide_eq_false_iff_not];rintro rfl;simp_all;done)
 clear fin
 simp only[w_eq,b_eq,beq_iff_eq,decide_eq_true_eq]at *
 obtain⟨o1,p1,n1,h1,m1,g1,q1,t1⟩:=a
 obtain⟨o2,p2,n2,h2,m2,g2,q2,t2⟩:=b
 simp_all[sameA]
end
instance {fr p}:FreeLI (encLeg fr p):=⟨⟨encLeg_free fr p⟩⟩
instance {fr} {l:List Leg}:FreeRI (l.map (encLeg fr)):=⟨⟨rowsLegs_free fr l⟩⟩
instance {fr l}:FreeI (encLegs fr l):=⟨⟨encLegs_free fr l⟩⟩
instance {fr a}:FreeLI (cellsA fr a):=⟨⟨cellsA_free fr a⟩⟩
instance {fr a}:FreeI (encA fr a):=⟨⟨encA_free fr a⟩⟩
instance:FreeLI zeroA:=⟨⟨zeroA_free⟩⟩
section
open Go.Proofs.Tryz (prog)
attribute [local irreducible] CallV RoundV
def prePath (l:List Leg) (x:UInt32) (n:Nat):List Leg:=match l with
 | ⟨false,ns⟩ :: r=>⟨false,List.replicate n x ++ ns⟩ :: r
 | l=>⟨false,List.replicate n x⟩ :: l
def badPre (a:Attrs) (x:UInt32) (n:Int):Bool:=!rightA a || x == 0 || decide (n < 0) || decide (8 < n)
def prepE (a:Attrs) (x:UInt32) (n:Int):Int:=if badPre a x n then 2 else if n=0 then 0 else if pathOk (prePath a.path x n.toNat)then 0 else 3
def prepA (a:Attrs) (x:UInt32) (n:Int):Attrs:=if prepE a x n ≠ 0 then noA else if n=0 then a else { a with path:=prePath a.path x n.toNat }
def prepV (fr:Bool) (a:Attrs) (x:UInt32) (n:Int):V:=.tup [encA fr (prepA a x n),.int .i64 (prepE a x n)]
theorem prepV_bad {fr:Bool} {a:Attrs} {x:UInt32} {n:Int} (h:badPre a x n=true):prepV fr a x n=.tup [encA fr noA,.int .i64 2]:=by simp[prepV,prepA,prepE,h]
theorem prepV_zero {fr:Bool} {a:Attrs} {x:UInt32} (h:badPre a x 0=false):prepV fr a x 0=.tup [encA fr a,.int .i64 0]:=by simp[prepV,prepA,prepE,h]
theorem prepV_long {fr:Bool} {a:Attrs} {x:UInt32} {n:Int} (h:badPre a x n=false) (h0:n ≠ 0) (hp:pathOk (prePath a.path x n.toNat)=false):prepV fr a x n=.tup [encA fr noA,.int .i64 3]:=by simp[prepV,prepA,prepE,h,h0,hp]
theorem prepV_ok {fr:Bool} {a:Attrs} {x:UInt32} {n:Int} (h:badPre a x n=false) (h0:n ≠ 0) (hp:pathOk (prePath a.path x n.toNat)=true):prepV fr a x n=.tup [encA fr { a with path:=prePath a.path x n.toNat },.int .i64 0]:=by simp[prepV,prepA,prepE,h,h0,hp]
theorem badPre_no {a:Attrs} {x:UInt32} {n:Int} (h:badPre a x n=false):rightA a=true∧x ≠ 0∧0≤n∧n≤8:=by simp[badPre]at h;exact⟨h.1.1.1,h.1.1.2,h.1.2,h.2⟩
theorem right_path {a:Attrs} (h:rightA a=true):pathOk a.path=true:=by simp[rightA]at h;exact h.1.1.1.1.1.2
theorem pathOk_all {l:List Leg} (h:pathOk l=true):l.length≤8∧∀p∈l,legOk p=true:=by simpa[pathOk]using h
theorem legOk_ns {p:Leg} (h:legOk p=true):1≤p.ns.length∧p.ns.length≤32∧(p.set=true→rises p.ns=true)∧∀x∈p.ns,x ≠ 0:=by
 simp only[legOk,Bool.and_eq_true,decide_eq_true_eq,Bool.or_eq_true,Bool.not_eq_true',List.all_eq_true,bne_iff_ne]at h
 refine⟨h.1.1.1,h.1.1.2,fun hs=>?_,h.2⟩
 rcases h.1.2 with h1|h1
 ·rw[hs]at h1;cases h1
 ·exact h1
def longP (l:List Leg):Bool:=decide (32 < (l.headD ⟨false,[]⟩).ns.length) || decide (8 < l.length)
theorem pre_long {l:List Leg} {x:UInt32} {n:Nat} (hl:pathOk l=true) (hx:x ≠ 0) (hn:0 < n):pathOk (prePath l x n)=!longP (prePath l x n):=by
 obtain⟨h8,hp⟩:=pathOk_all hl
 have hrow:∀ns:List UInt32,(∀y∈ns,y ≠ 0)→legOk ⟨false,List.replicate n x ++ ns⟩=decide (n + ns.length≤32):=by
  intro ns hns
  have:ns.all (· != 0)=true:=by rw[List.all_eq_true];intro y hy;simpa using hns y hy
  have h1:decide (1≤n + ns.length)=true:=by simp;omega
  simp[legOk,this,hx,h1]
 have key:∀(q:Leg) (r:List Leg),(∀p∈r,legOk p=true)→pathOk (q :: r)=(decide (r.length + 1≤8)&& legOk q):=by
  intro q r hr
  have:r.all legOk=true:=List.all_eq_true.2 hr
  simp[pathOk,this]
 unfold prePath
 split
 ·rename_i ns r
  have hns:=(legOk_ns (hp _ (List.mem_cons_self ..))).2.2.2
  rw[key _ _ (fun p h=>hp p (List.mem_cons_of_mem _ h)),hrow _ hns]
  simp only[longP,List.headD_cons,List.length_append,List.length_replicate,List.length_cons,Bool.not_or]
  rw[Bool.and_comm]
  congr 1<;>rw[← decide_not]<;>congr 1<;>simp<;>omega
 ·rename_i hnot
  have hrow0:=hrow [] (by simp)
  rw[List.append_nil]at hrow0
  rw[key _ _ hp,hrow0]
  simp only[longP,List.headD_cons,List.length_replicate,List.length_cons,Bool.not_or,List.length_nil]
  rw[Bool.and_comm]
  congr 1<;>rw[← decide_not]<;>congr 1<;>simp<;>omega
theorem longP_yes {l:List Leg} (h:32 < (l.headD ⟨false,[]⟩).ns.length∨8 < l.length):longP l=true:=by simpa[longP]using h
theorem longP_no {l:List Leg} (h:(l.headD ⟨false,[]⟩).ns.length≤32∧l.length≤8):longP l=false:=by simpa[longP]using h
theorem ref_prepend_ok (fr:Bool) (a:Attrs) (x:UInt32) (n:Int):PCon prog 84 [encA fr a,cW x,.int .i64 n] (prepV fr a x n):=by
 have bad:∀{s:St} {v:V},badPre a x n=true→LeV s.h s.nx id 0 [] v (encA fr noA)→∃v1 h' nx',Ends 0 s (.tup [v,.int .i64 2]) v1 h' nx'∧(v1=prepV fr a x n∧h'=[]∧nx'=0):=fun hb hv=>by
  rw[prepV_bad hb]
  exact Ends.pure [] (.tupL ⟨hv,.free .int,trivial⟩) (by simp)
 refine callV_of (fn:=Go.Proofs.Tryz.f84) (body:=_) tab_ok mixed rfl rfl (by decide) (by simp[Go.Proofs.Tryz.f84]) ?_
 conv=>whnf
 refine callV_pure (right_ok fr a) ⟨.free (encA_free _ _),trivial⟩ ?_
 cases hr:rightA a with
 | false=>
  conv=>whnf
  exact bad (by simp[badPre,hr]) .noA
 | true=>
 conv=>whnf
 cases hx:((x.toNat:Int) == 0)with
 | true=>
  conv=>whnf
  exact bad (by rw[u32_eq]at hx;simp[badPre,hx]) .noA
 | false=>
 conv=>whnf
 cases hn:decide (n < 0)with
 | true=>
  conv=>whnf
  exact bad (by simp[badPre,hn]) .noA
 | false=>
 conv=>whnf
 cases h8:decide (8 < n)with
 | true=>
  conv=>whnf
  exact bad (by simp[badPre,h8]) .noA
 | false=>
 have hb:badPre a x n=false:=by rw[u32_eq]at hx;simp[badPre,hr,hx,hn,h8]
 conv=>whnf
 cases h0:(n == 0)with
 | true=>
  have h0:n=0:=by simpa using h0
  subst h0
  conv=>whnf
  rw[prepV_zero hb]
  exact(Ends.pA)
 | false=>
 have h0:n ≠ 0:=by simpa using h0
 obtain⟨k,rfl⟩:∃k:Nat,n=k:=⟨n.toNat,by have:=of_decide_eq_false hn;omega⟩
 have hk:k≤8:=by have:=of_decide_eq_false h8;omega
 have hk0:0 < k:=by omega
 conv=>whnf
 refine vcg_loop tab_ok mixed (fun i:{i:Nat // i≤k}=>⟨[(1,cW x),(2,cI k),(3,.ptr 0 0),(6,.ptr 1 0),(8,.osl 2 1 0 i.1),(9,cI i.1)],[(0,some (.var true 35 (cellsA fr a))),(1,some (.var true 35 zeroA)),(2,some (.arr true false 22 1 (rowsW (List.replicate i.1 x))))],3⟩) (fun i=>k - i.1) ⟨0,by omega⟩ (Wk.i (by repeat' (first|exact LHa|exact .A|exact LeL.fr rfl|exact LHb|refine Or.inl ⟨by simp,_,rfl,?_⟩|exact Or.inr ⟨by simp,_,_,_,_,rfl⟩|refine⟨rfl,rfl,rfl,rfl,rfl,rfl,?_⟩|refine⟨?_,?_⟩)) (by omega)) (fun i=>?_)
 obtain⟨i,hi⟩:=i
 conv=>whnf
 split
 ·rename_i hc
  have hc:i < k:=by simpa using hc
  conv=>whnf
  refine⟨rfl,by simp,⟨rfl,rfl,rfl,rfl,by decide⟩,by simp,⟨by simp[tab,tabOf,nth];omega,by simp;omega⟩,?_⟩
  conv=>whnf
  refine⟨⟨i + 1,by omega⟩,(Wk.all (renOf [(2,4)]) [] (by repeat' (first|exact LHa|exact .osl_of rfl (by omega) (by simp)|exact LeB.eq_of (by simp[List.take_of_length_le];rw[← List.replicate_succ']) (rowsW_free _)|exact .int_of (wrap64_succ hc (show k≤maxLen by unfold maxLen;omega))|exact .A|exact LeL.fr rfl|exact LHb|refine Or.inl ⟨by simp,_,rfl,?_⟩|exact Or.inr ⟨by simp,_,_,_,_,rfl⟩|refine⟨rfl,rfl,rfl,rfl,rfl,rfl,?_⟩|refine⟨?_,?_⟩)) (show ∀b∈([0,1,2]:List Nat),∀b'∈([0,1,2]:List Nat),(renOf [(2,4)]) b=(renOf [(2,4)]) b'→b=b' by decide) (fun _ h=>by omega) (by omega) (by simp)),by simp only;omega⟩
 ·rename_i hc
  have hc:i=k:=by simp at hc;omega
  subst hc
  obtain⟨o,l,nn,hm,m,hq,q,tg⟩:=a
  have hlen:=(pathOk_all (right_path hr)).1
  have hall:=(pathOk_all (right_path hr)).2
  simp only at hlen hall
  conv=>whnf
  have hx0:x ≠ 0:=(badPre_no hb).2.1
  have hpl:=pre_long (right_path hr) hx0 hk0
  simp only at hpl
  have fin:∀{s:St} {vp:V} (Z:List Nat),longP (prePath l x i)=false→LeV s.h s.nx id 0 Z vp (encLegs fr (prePath l x i))→(∀z∈Z,hget s.h z ≠ none) →
    ∃v1 h' nx',Ends 0 s (.tup [.agg [cB o,vp,cW nn,.bool hm,cW m,.bool hq,cW q,encW fr tg],.int .i64 0]) v1 h' nx'∧(v1=prepV fr ⟨o,l,nn,hm,m,hq,q,tg⟩ x i∧h'=[]∧nx'=0):=fun Z hlp hv hz=>by
   rw[prepV_ok hb h0 (by rw[Int.toNat_natCast];simp only;rw[hpl,hlp];rfl)]
   exact Ends.pure Z (.tupL ⟨.aggL ⟨.free .int,hv,.free .int,.free .bool,.free .int,.free .bool,.free .int,.free (encW_free _ _),trivial⟩,.free .int,trivial⟩) hz
  have long:∀{s:St} {v:V},longP (prePath l x i)=true→LeV s.h s.nx id 0 [] v (encA fr noA)→∃v1 h' nx',Ends 0 s (.tup [v,.int .i64 3]) v1 h' nx'∧(v1=prepV fr ⟨o,l,nn,hm,m,hq,q,tg⟩ x i∧h'=[]∧nx'=0):=fun hlp hv=>by
   rw[prepV_long hb h0 (by rw[Int.toNat_natCast];simp only;rw[hpl,hlp];rfl)]
   exact Ends.pure [] (.tupL ⟨hv,.free .int,trivial⟩) (by simp)
  rcases l with _|⟨⟨st,ns⟩,r⟩
  ·conv=>whnf
   intro _
   conv=>whnf
   refine⟨⟨rfl,rfl,rfl,rfl,by decide⟩,by simp,⟨by simp[tab,tabOf,nth],by simp⟩,?_⟩
   conv=>whnf
   intro _
   conv=>whnf
   (split<;>first|(rename_i hh;exfalso;first|(simp at hh;done)|(simp at hh;omega))|skip);(conv=>whnf)
   intro _
   conv=>whnf
   refine fin [4,2] (by simp[longP,prePath];omega) ?_ (by intro z hz;simp only[List.mem_cons,List.not_mem_nil,or_false]at hz;rcases hz with rfl|rfl<;>exact ne_none_of rfl)
   refine LeV.sl_fr (LeV.freezeR (by simp) rfl (by simp) ?_)
   refine LeR.of_eq (ys:=[[.bool false,.osl 2 1 0 i]]) (by simp) ⟨⟨.free .bool,LeV.sl_fr (LeV.freeze_of (by simp) rfl (by simp) (rowsW_free _) (by simp[List.take_of_length_le])),trivial⟩,trivial⟩
  ·have hcold:=hall ⟨st,ns⟩ (by simp)
   have hns:=(legOk_ns hcold).2.1
   simp only at hns
   simp only[List.length_cons]at hlen
   cases st with
   | true=>
    conv=>whnf
    intro _
    conv=>whnf
    (split<;>first|(rename_i hh;exfalso;first|(simp at hh;done)|(simp at hh;omega))|skip);(conv=>whnf)
    refine⟨rfl,_,⟨by decide,rfl⟩,?_⟩
    conv=>whnf
    refine⟨⟨rfl,rfl,rfl,rfl,by decide⟩,by simp,⟨by simp[tab,tabOf,nth];omega,by simp;omega⟩,?_⟩
    conv=>whnf
    intro _
    conv=>whnf
    (split<;>first|(rename_i hh;exfalso;first|(simp at hh;done)|(simp at hh;omega))|skip);(conv=>whnf)
    intro _
    conv=>whnf
    split
    ·rename_i hc8
     conv=>whnf
     refine long ?_ .noA
     simp at hc8
     refine longP_yes ?_
     simp[prePath]
     omega
    ·rename_i hc8
     conv=>whnf
     refine fin [4,2] ?_ ?_ (by intro z hz;simp only[List.mem_cons,List.not_mem_nil,or_false]at hz;rcases hz with rfl|rfl<;>exact ne_none_of rfl)
     ·simp at hc8
      refine longP_no ?_
      simp[prePath]
      omega
     refine LeV.sl_fr (LeV.freezeR (by simp) rfl (by simp;try omega) ?_)
     refine LeR.of_eq (ys:=[.bool false,.osl 2 1 0 i] :: (⟨true,ns⟩ :: r).map (encLeg fr)) (List.take_of_length_le (by simp;omega)) ⟨⟨.free .bool,LeV.sl_fr (LeV.freezeE (by simp) rfl (by simp) (by simp[List.take_of_length_le]) (rowsW_free (List.replicate i x))),trivial⟩,LeR.free (rowsLegs_free _ _)⟩
   | false=>
    conv=>whnf
    intro _
    conv=>whnf
    (split<;>first|(rename_i hh;exfalso;first|(simp at hh;done)|(simp at hh;omega))|skip);(conv=>whnf)
    refine⟨rfl,_,⟨by decide,rfl⟩,?_⟩
    conv=>whnf
    refine⟨rfl,_,⟨by decide,rfl⟩,?_⟩
    conv=>whnf
    refine⟨⟨rfl,rfl,rfl,rfl,by decide⟩,by simp,⟨by simp[tab,tabOf,nth];omega,by simp;omega⟩,?_⟩
    conv=>whnf
    refine⟨rfl,⟨by decide,by simp⟩,?_⟩
    conv=>whnf
    refine⟨by kernel_rfl,?_⟩
    conv=>whnf
    refine⟨⟨rfl,rfl,rfl,rfl,by decide⟩,by simp,⟨by simp[tab,tabOf,nth];omega,by simp;omega⟩,?_⟩
    conv=>whnf
    intro _
    conv=>whnf
    split
    ·rename_i hc8
     conv=>whnf
     refine long ?_ .noA
     simp at hc8
     refine longP_yes ?_
     simp[prePath]
     omega
    ·rename_i hc8
     conv=>whnf
     intro _
     conv=>whnf
     split
     ·rename_i hc9
      conv=>whnf
      refine long ?_ .noA
      simp at hc9
      refine longP_yes ?_
      simp[prePath]
      omega
     ·rename_i hc9
      conv=>whnf
      refine fin [5,3] ?_ ?_ (by intro z hz;simp only[List.mem_cons,List.not_mem_nil,or_false]at hz;rcases hz with rfl|rfl<;>exact ne_none_of rfl)
      ·simp at hc8 hc9
       refine longP_no ?_
       simp[prePath]
       omega
      refine LeV.sl_fr (LeV.freezeR (by simp) rfl (by simp;try omega) ?_)
      refine LeR.of_eq (ys:=[.bool false,.osl 3 1 0 (i + ns.length)] :: r.map (encLeg fr)) (by simp;exact List.take_of_length_le (by simp;omega)) ⟨⟨.free .bool,LeV.sl_fr (LeV.freezeE (ys:=rowsW (List.replicate i x ++ ns)) (by simp) rfl (by simp) (by simp[List.take_of_length_le]) (rowsW_free _)),trivial⟩,LeR.free (rowsLegs_free _ _)⟩
end
section
open Go.Proofs.Tryz (prog)
attribute [local irreducible] CallV RoundV
def insT:List UInt32→UInt32→List UInt32
 | [],t=>[t]
 | y :: r,t=>if t < y then t :: y :: r else y :: insT r t
def anyT (l:List UInt32) (t:UInt32):Bool:=l.any (fun y=>decide (t < y))
def outT (l:List UInt32) (t:UInt32):List UInt32:=if anyT l t then insT l t else l
theorem insT_snoc {l:List UInt32} {t y:UInt32} (h:anyT l t=true):insT (l ++ [y]) t=insT l t ++ [y]:=by
 induction l with
 | nil=>simp[anyT]at h
 | cons x r ih=>
  simp only[List.cons_append,insT]
  split
  ·rfl
  ·rename_i hx
   simp only[anyT,List.any_cons,hx,decide_false,Bool.false_or]at h
   rw[ih h];rfl
theorem insT_none {l:List UInt32} {t:UInt32} (h:anyT l t=false):insT l t=l ++ [t]:=by
 induction l with
 | nil=>rfl
 | cons x r ih=>
  simp only[anyT,List.any_cons,Bool.or_eq_false_iff,decide_eq_false_iff_not]at h
  simp only[insT,List.cons_append]
  rw[if_neg h.1,ih h.2]
theorem anyT_snoc {l:List UInt32} {t y:UInt32}:anyT (l ++ [y]) t=(anyT l t || decide (t < y)):=by simp[anyT]
theorem outT_in {l:List UInt32} {t y:UInt32} (h:anyT l t=false) (hy:t < y):outT (l ++ [y]) t=l ++ [t]++ [y]:=by
 have h2:anyT (l ++ [y]) t=true:=by rw[anyT_snoc];simp[hy]
 rw[outT,if_pos h2]
 have:∀l:List UInt32,anyT l t=false→insT (l ++ [y]) t=l ++ [t]++ [y]:=by
  intro l hl
  induction l with
  | nil=>simp[insT,hy]
  | cons x r ih=>
   simp only[anyT,List.any_cons,Bool.or_eq_false_iff,decide_eq_false_iff_not]at hl
   simp only[insT,List.cons_append]
   rw[if_neg hl.1,ih hl.2]
 exact this l h
theorem outT_old {l:List UInt32} {t y:UInt32} (h:anyT l t=true):outT (l ++ [y]) t=outT l t ++ [y]:=by
 have h2:anyT (l ++ [y]) t=true:=by rw[anyT_snoc];simp[h]
 rw[outT,if_pos h2,outT,if_pos h,insT_snoc h]
theorem outT_no {l:List UInt32} {t y:UInt32} (h:anyT l t=false) (hy:¬ t < y):outT (l ++ [y]) t=outT l t ++ [y]:=by
 have h2:anyT (l ++ [y]) t=false:=by rw[anyT_snoc];simp[h,hy]
 rw[outT,h2,outT,h];rfl
theorem outT_len {l:List UInt32} {t:UInt32}:(outT l t).length≤l.length + 1:=by
 have:∀l:List UInt32,(insT l t).length=l.length + 1:=by
  intro l
  induction l with
  | nil=>rfl
  | cons x r ih=>simp only[insT];split<;>simp[ih]
 unfold outT
 split
 ·exact Nat.le_of_eq (this l)
 ·exact Nat.le_succ _
theorem insT_len {l:List UInt32} {t:UInt32}:(insT l t).length=l.length + 1:=by
 induction l with
 | nil=>rfl
 | cons x r ih=>simp only[insT];split<;>simp[ih]
def tagE (a:Attrs) (t:UInt32):Int:=if !rightA a then 2 else if a.tags.contains t then 0 else if 16 < a.tags.length + 1 then 3 else 0
def tagA (a:Attrs) (t:UInt32):Attrs:=if tagE a t ≠ 0 then noA else if a.tags.contains t then a else { a with tags:=insT a.tags t }
def tagV (fr:Bool) (a:Attrs) (t:UInt32):V:=.tup [encA fr (tagA a t),.int .i64 (tagE a t)]
theorem tagV_bad {fr:Bool} {a:Attrs} {t:UInt32} (h:rightA a=false):tagV fr a t=.tup [encA fr noA,.int .i64 2]:=by simp[tagV,tagA,tagE,h]
theorem tagV_in {fr:Bool} {a:Attrs} {t:UInt32} (h:rightA a=true) (ht:a.tags.contains t=true):tagV fr a t=.tup [encA fr a,.int .i64 0]:=by simp only[tagV,tagA,tagE,h,ht];rfl
theorem tagV_long {fr:Bool} {a:Attrs} {t:UInt32} (h:rightA a=true) (ht:a.tags.contains t=false) (hl:16≤a.tags.length):tagV fr a t=.tup [encA fr noA,.int .i64 3]:=by
 have:16 < a.tags.length + 1:=by omega
 simp only[tagV,tagA,tagE,h,ht,this];rfl
theorem tagV_new {fr:Bool} {a:Attrs} {t:UInt32} (h:rightA a=true) (ht:a.tags.contains t=false) (hl:a.tags.length < 16):tagV fr a t=.tup [encA fr { a with tags:=insT a.tags t },.int .i64 0]:=by
 have:¬ 16 < a.tags.length + 1:=by omega
 simp only[tagV,tagA,tagE,h,ht,this];rfl
theorem contains_succ {l:List UInt32} {t:UInt32} {i:Nat} (hi:i < l.length) (h:(l.take i).contains t=false) (he:l[i] ≠ t):(l.take (i + 1)).contains t=false:=by
 rw[List.take_succ_eq_append_getElem hi,List.contains_eq_any_beq,List.any_append,← List.contains_eq_any_beq,h]
 simpa using fun e=>he e.symm
theorem ref_tag_ok (fr:Bool) (a:Attrs) (t:UInt32):PCon prog 133 [encA fr a,cW t] (tagV fr a t):=by
 refine callV_of (fn:=Go.Proofs.Tryz.f133) (body:=_) tab_ok mixed rfl rfl (by decide) (by simp[Go.Proofs.Tryz.f133]) ?_
 conv=>whnf
 refine callV_pure (right_ok fr a) ⟨.free (encA_free _ _),trivial⟩ ?_
 cases hr:rightA a with
 | false=>
  rw[tagV_bad hr]
  conv=>whnf
  exact(Ends.pure [] (by repeat' (first|exact True.intro|exact .noA|exact .A|exact LeL.fr rfl|refine .tupL ?_|refine .aggL ?_|refine⟨?_,?_⟩)) (by simp))
 | true=>
 have htl:a.tags.length≤16:=by simp[rightA]at hr;have:=hr.1.2;omega
 conv=>whnf
 refine vcg_loop tab_ok mixed (fun i:{i:Nat // i≤a.tags.length∧(a.tags.take i).contains t=false}=>⟨[(1,cW t),(2,.ptr 0 0),(4,.ptr 1 0),(6,.osl 2 1 0 (outT (a.tags.take i.1) t).length),(7,.bool (anyT (a.tags.take i.1) t)),(8,cI i.1)],[(0,some (.var true 35 (cellsA fr a))),(1,some (.var true 35 zeroA)),(2,some (.arr true false 22 1 (rowsW (outT (a.tags.take i.1) t))))],3⟩) (fun i=>a.tags.length - i.1) ⟨0,by omega,rfl⟩ (Wk.i (by repeat' (first|exact LHa|exact .A|exact LeL.fr rfl|exact LHb|refine Or.inl ⟨by simp,_,rfl,?_⟩|exact Or.inr ⟨by simp,_,_,_,_,rfl⟩|refine⟨rfl,rfl,rfl,rfl,rfl,rfl,?_⟩|refine⟨?_,?_⟩)) (by omega)) (fun i=>?_)
 obtain⟨i,hi,hno⟩:=i
 conv=>whnf
 intro _
 conv=>whnf
 split
 ·rename_i hc
  have hc:i < a.tags.length:=by simpa using hc
  have htk:=List.take_succ_eq_append_getElem hc
  have hlen:=outT_len (l:=a.tags.take i) (t:=t)
  rw[List.length_take,Nat.min_eq_left hi]at hlen
  conv=>whnf
  refine ixK (idxW hc) ?_
  conv=>whnf
  split
  ·rename_i he
   have he:a.tags[i]=t:=by simp at he;exact UInt32.toNat_inj.1 (by omega)
   rw[tagV_in hr (by simp;rw[← he];exact List.getElem_mem hc)]
   conv=>whnf
   exact(Ends.pA)
  ·rename_i he
   have he:a.tags[i] ≠ t:=by intro e;rw[e]at he;simp at he
   have hno':=contains_succ hc hno he
   conv=>whnf
   cases hth:anyT (a.tags.take i) t with
   | true=>
    conv=>whnf
    refine ixK (idxW hc) ?_
    conv=>whnf
    refine⟨rfl,by simp,⟨rfl,rfl,rfl,rfl,by decide⟩,by simp,⟨by simp[tab,tabOf,nth];omega,by simp;omega⟩,?_⟩
    conv=>whnf
    have hout:outT (a.tags.take (i + 1)) t=outT (a.tags.take i) t ++ [a.tags[i]]:=by rw[htk,outT_old hth]
    have hany:anyT (a.tags.take (i + 1)) t=true:=by rw[htk,anyT_snoc,hth];rfl
    exact⟨⟨i + 1,by omega,hno'⟩,(Wk.all (renOf [(2,4)]) [] (by repeat' (first|exact LHa|exact .osl_of rfl (by omega) (by simp[hout])|exact LeB.eq_of (by simp[hout];exact List.take_of_length_le (by simp)) (rowsW_free _)|exact .bool_of (by simp only[hany])|exact .int_of (wrap64_succ hc (show a.tags.length≤maxLen by unfold maxLen;omega))|exact .A|exact LeL.fr rfl|exact LHb|refine Or.inl ⟨by simp,_,rfl,?_⟩|exact Or.inr ⟨by simp,_,_,_,_,rfl⟩|refine⟨rfl,rfl,rfl,rfl,rfl,rfl,?_⟩|refine⟨?_,?_⟩)) (show ∀b∈([0,1,2]:List Nat),∀b'∈([0,1,2]:List Nat),(renOf [(2,4)]) b=(renOf [(2,4)]) b'→b=b' by decide) (fun _ h=>by omega) (by omega) (by simp)),by simp only;omega⟩
   | false=>
    conv=>whnf
    refine ixK (idxW hc) ?_
    conv=>whnf
    split
    ·rename_i hg
     have hg:t < a.tags[i]:=by simp at hg;exact UInt32.lt_iff_toNat_lt.2 (by omega)
     have hout:outT (a.tags.take (i + 1)) t=outT (a.tags.take i) t ++ [t]++ [a.tags[i]]:=by rw[htk,outT_in hth hg,outT,hth];rfl
     have hany:anyT (a.tags.take (i + 1)) t=true:=by rw[htk,anyT_snoc];simp[hg]
     conv=>whnf
     refine⟨rfl,by simp,⟨rfl,rfl,rfl,rfl,by decide⟩,by simp,⟨by simp[tab,tabOf,nth];omega,by simp;omega⟩,?_⟩
     conv=>whnf
     refine ixK (idxW hc) ?_
     conv=>whnf
     refine⟨rfl,by simp,⟨rfl,rfl,rfl,rfl,by decide⟩,by simp,⟨by simp[tab,tabOf,nth];omega,by simp;omega⟩,?_⟩
     conv=>whnf
     exact⟨⟨i + 1,by omega,hno'⟩,(Wk.all (renOf [(2,6)]) [] (by repeat' (first|exact LHa|exact .osl_of rfl (by omega) (by simp[hout])|exact LeB.eq_of (by simp[hout];rw[List.take_of_length_le (by simp)];rw[List.take_of_length_le (by simp)];simp) (rowsW_free _)|exact .bool_of (by simp only[hany])|exact .int_of (wrap64_succ hc (show a.tags.length≤maxLen by unfold maxLen;omega))|exact .A|exact LeL.fr rfl|exact LHb|refine Or.inl ⟨by simp,_,rfl,?_⟩|exact Or.inr ⟨by simp,_,_,_,_,rfl⟩|refine⟨rfl,rfl,rfl,rfl,rfl,rfl,?_⟩|refine⟨?_,?_⟩)) (show ∀b∈([0,1,2]:List Nat),∀b'∈([0,1,2]:List Nat),(renOf [(2,6)]) b=(renOf [(2,6)]) b'→b=b' by decide) (fun _ h=>by omega) (by omega) (by simp)),by simp only;omega⟩
    ·rename_i hg
     have hg:¬ t < a.tags[i]:=by simp at hg;intro h;have:=UInt32.lt_iff_toNat_lt.1 h;omega
     have hout:outT (a.tags.take (i + 1)) t=outT (a.tags.take i) t ++ [a.tags[i]]:=by rw[htk,outT_no hth hg]
     have hany:anyT (a.tags.take (i + 1)) t=false:=by rw[htk,anyT_snoc];simp[hg,hth]
     conv=>whnf
     refine ixK (idxW hc) ?_
     conv=>whnf
     refine⟨rfl,by simp,⟨rfl,rfl,rfl,rfl,by decide⟩,by simp,⟨by simp[tab,tabOf,nth];omega,by simp;omega⟩,?_⟩
     conv=>whnf
     exact⟨⟨i + 1,by omega,hno'⟩,(Wk.all (renOf [(2,4)]) [] (by repeat' (first|exact LHa|exact .osl_of rfl (by omega) (by simp[hout])|exact LeB.eq_of (by simp[hout];exact List.take_of_length_le (by simp)) (rowsW_free _)|exact .bool_of (by simp only[hany])|exact .int_of (wrap64_succ hc (show a.tags.length≤maxLen by unfold maxLen;omega))|exact .A|exact LeL.fr rfl|exact LHb|refine Or.inl ⟨by simp,_,rfl,?_⟩|exact Or.inr ⟨by simp,_,_,_,_,rfl⟩|refine⟨rfl,rfl,rfl,rfl,rfl,rfl,?_⟩|refine⟨?_,?_⟩)) (show ∀b∈([0,1,2]:List Nat),∀b'∈([0,1,2]:List Nat),(renOf [(2,4)]) b=(renOf [(2,4)]) b'→b=b' by decide) (fun _ h=>by omega) (by omega) (by simp)),by simp only;omega⟩
 ·rename_i hc
  have hc:i=a.tags.length:=by simp at hc;omega
  subst hc
  rw[List.take_length]at hno
  have long:∀{s:St} {v:V},16≤a.tags.length→LeV s.h s.nx id 0 [] v (encA fr noA)→∃v1 h' nx',Ends 0 s (.tup [v,.int .i64 3]) v1 h' nx'∧(v1=tagV fr a t∧h'=[]∧nx'=0):=fun hl hv=>by
   rw[tagV_long hr hno hl]
   exact Ends.pure [] (.tupL ⟨hv,.free .int,trivial⟩) (by simp)
  have fin:∀{s:St} {vt:V} (Z:List Nat),a.tags.length < 16→LeV s.h s.nx id 0 Z vt (encW fr (insT a.tags t))→(∀z∈Z,hget s.h z ≠ none) →
    ∃v1 h' nx',Ends 0 s (.tup [.agg [cB a.origin,encLegs fr a.path,cW a.next,.bool a.hasMed,cW a.med,.bool a.hasPref,cW a.pref,vt],.int .i64 0]) v1 h' nx'∧(v1=tagV fr a t∧h'=[]∧nx'=0):=fun Z hl hv hz=>by
   rw[tagV_new hr hno hl]
   exact Ends.pure Z (.tupL ⟨.aggL ⟨.free .int,.free (encLegs_free _ _),.free .int,.free .bool,.free .int,.free .bool,.free .int,hv,trivial⟩,.free .int,trivial⟩) hz
  conv=>whnf
  split
  rotate_left
  ·rename_i hth
   have hth:anyT a.tags t=true:=by simpa using hth
   have ho:outT (a.tags.take a.tags.length) t=insT a.tags t:=by rw[List.take_length,outT,if_pos hth]
   conv=>whnf
   intro _
   conv=>whnf
   split
   ·rename_i h16
    conv=>whnf
    exact long (by simp only[ho]at h16;simp[insT_len]at h16;omega) .noA
   ·rename_i h16
    conv=>whnf
    exact fin [2] (by simp only[ho]at h16;simp[insT_len]at h16;omega) (LeV.sl_fr (LeV.freezeE (by simp) rfl (by simp) (by simp only[ho];simp[List.take_of_length_le]) (rowsW_free _))) (by intro z hz;simp only[List.mem_cons,List.not_mem_nil,or_false]at hz;rcases hz with rfl<;>exact ne_none_of rfl)
  ·rename_i hth
   have hth:anyT a.tags t=false:=by simpa using hth
   have ho:outT (a.tags.take a.tags.length) t=a.tags:=by rw[List.take_length,outT,hth];rfl
   have hi2:insT a.tags t=a.tags ++ [t]:=insT_none hth
   conv=>whnf
   refine⟨rfl,by simp,⟨rfl,rfl,rfl,rfl,by decide⟩,by simp,⟨by simp only[ho];simp[tab,tabOf,nth];omega,by simp only[ho];simp;omega⟩,?_⟩
   conv=>whnf
   intro _
   conv=>whnf
   split
   ·rename_i h16
    conv=>whnf
    exact long (by simp only[ho]at h16;simp at h16;omega) .noA
   ·rename_i h16
    conv=>whnf
    exact fin [4] (by simp only[ho]at h16;simp at h16;omega) (LeV.sl_fr (LeV.freezeE (ys:=rowsW (insT a.tags t)) (by simp) rfl (by simp) (by simp only[ho,hi2];simp[List.take_of_length_le]) (rowsW_free _))) (by intro z hz;simp only[List.mem_cons,List.not_mem_nil,or_false]at hz;rcases hz with rfl<;>exact ne_none_of rfl)
end
section
open Go.Proofs.Tryz (prog)
attribute [local irreducible] CallV RoundV
theorem cmpNaN_ok (x:UInt32):PCon prog 175 [cW x] (.bool false):=by
 refine callV_of (fn:=Go.Proofs.Tryz.f175) (body:=_) tab_ok mixed rfl rfl (by decide) (by simp[Go.Proofs.Tryz.f175]) ?_
 conv=>whnf
 exact(Ends.pure [] (by repeat' (first|exact True.intro|exact .bool_of (by simp)|exact .A|exact LeL.fr rfl|refine .tupL ?_|refine .aggL ?_|refine⟨?_,?_⟩)) (by simp))
theorem slNaN_ok (x:UInt32):PCon prog 205 [cW x] (.bool false):=by
 refine callV_of (fn:=Go.Proofs.Tryz.f205) (body:=_) tab_ok mixed rfl rfl (by decide) (by simp[Go.Proofs.Tryz.f205]) ?_
 conv=>whnf
 exact(Ends.pure [] (by repeat' (first|exact True.intro|exact .bool_of (by simp)|exact .A|exact LeL.fr rfl|refine .tupL ?_|refine .aggL ?_|refine⟨?_,?_⟩)) (by simp))
theorem less32_ok (x y:UInt32):PCon prog 204 [cW x,cW y] (.bool (decide (x < y))):=by
 refine callV_of (fn:=Go.Proofs.Tryz.f204) (body:=_) tab_ok mixed rfl rfl (by decide) (by simp[Go.Proofs.Tryz.f204]) ?_
 conv=>whnf
 refine callV_pure (cmpNaN_ok x) ⟨.free .int,trivial⟩ ?_
 conv=>whnf
 exact(Ends.pure [] (by repeat' (first|exact True.intro|exact .bool_of (by rw[decide_eq_decide,UInt32.lt_iff_toNat_lt];omega)|exact .A|exact LeL.fr rfl|refine .tupL ?_|refine .aggL ?_|refine⟨?_,?_⟩)) (by simp))
theorem half (i j:Nat) (h:i + j < 1000000):IntKind.i64.wrap ((IntKind.u64.wrap (IntKind.i64.wrap ((i:Int)+ (j:Int)))).fdiv (2 ^ (min (Int.toNat 1) IntKind.u64.bits)))=(((i + j) / 2:Nat):Int):=by
 rw[wrap64 (n:=(i:Int)+ (j:Int)) (by omega) (by omega),wrapu64,Int.emod_eq_of_lt (by omega) (by omega)]
 rw[show min (Int.toNat 1) IntKind.u64.bits=1 by decide]
 rw[Int.fdiv_eq_ediv_of_nonneg _ (by decide),wrap64 (by omega) (by omega)]
 omega
theorem rises_lt:∀{l:List UInt32},rises l=true→∀{i j:Nat} (hi:i < j) (hj:j < l.length),l[i] < l[j]
 | [],_,i,j,_,hj=>by simp at hj
 | [a],_,i,j,hi,hj=>by simp at hj;omega
 | a :: b :: r,h,i,j,hi,hj=>by
  simp only[rises,Bool.and_eq_true,decide_eq_true_eq]at h
  cases j with
  | zero=>omega
  | succ j=>
   cases i with
   | zero=>
    cases j with
    | zero=>exact h.1
    | succ j=>
     have:=rises_lt h.2 (i:=0) (j:=j + 1) (by omega) (by simpa using hj)
     simp only[List.getElem_cons_zero,List.getElem_cons_succ]at this ⊢
     rw[UInt32.lt_iff_toNat_lt]at *
     have h1:=h.1
     omega
   | succ i=>
    have:=rises_lt h.2 (i:=i) (j:=j) (by omega) (by simpa using hj)
    simpa using this
structure Bs (l:List UInt32) (t:UInt32) where
 i:Nat
 j:Nat
 hij:i≤j
 hj:j≤l.length
 lo:∀(k:Nat) (hk:k < l.length),k < i→l[k] < t
 hi:∀(k:Nat) (hk:k < l.length),j≤k→¬ l[k] < t
theorem bs_ok (fr:Bool) (l:List UInt32) (t:UInt32) (hr:rises l=true) (hl:l.length≤1000):∃i,i≤l.length∧(∀(k:Nat) (hk:k < l.length),k < i→l[k] < t)∧(∀(k:Nat) (hk:k < l.length),i≤k→¬ l[k] < t) ∧
  PCon prog 160 [encW fr l,cW t] (.tup [cI i,.bool (l.contains t)]):=by
 -- the place
 have place:∀l:List UInt32,rises l=true→∃i,i≤l.length∧(∀(k:Nat) (hk:k < l.length),k < i→l[k] < t)∧(∀(k:Nat) (hk:k < l.length),i≤k→¬ l[k] < t):=by
  intro l hr
  refine⟨l.findIdx (fun y=>!decide (y < t)),List.findIdx_le_length,fun k hk hlt=>?_,fun k hk hle=>?_⟩
  ·have:=List.not_of_lt_findIdx hlt
   simpa using this
  ·have hlt:l.findIdx (fun y=>!decide (y < t)) < l.length:=by omega
   have h1:=List.findIdx_getElem (w:=hlt)
   simp only[Bool.not_eq_true',decide_eq_false_iff_not]at h1
   rcases Nat.lt_or_ge (l.findIdx (fun y=>!decide (y < t))) k with h2|h2
   ·have h3:=rises_lt hr h2 hk
    rw[UInt32.lt_iff_toNat_lt]at *
    omega
   ·have:l.findIdx (fun y=>!decide (y < t))=k:=by omega
    simp only[this]at h1
    exact h1
 obtain⟨p,hp,plo,phi⟩:=place l hr
 refine⟨p,hp,plo,phi,?_⟩
 refine callV_of (fn:=Go.Proofs.Tryz.f160) (body:=_) tab_ok mixed rfl rfl (by decide) (by simp[Go.Proofs.Tryz.f160]) ?_
 conv=>whnf
 intro _
 conv=>whnf
 refine vcg_loop tab_ok mixed (fun s:Bs l t=>⟨[(0,encW fr l),(1,cW t),(6,cI l.length),(7,cI s.i),(8,cI s.j)],[],0⟩) (fun s=>s.j - s.i) ⟨0,l.length,by omega,by omega,fun k hk h=>by omega,fun k hk h=>by omega⟩ (Wk.i (by repeat' (first|exact LHa|exact .int_of (by simp)|exact .A|exact LeL.fr rfl|exact LHb|refine Or.inl ⟨by simp,_,rfl,?_⟩|exact Or.inr ⟨by simp,_,_,_,_,rfl⟩|refine⟨rfl,rfl,rfl,rfl,rfl,rfl,?_⟩|refine⟨?_,?_⟩)) (by omega)) (fun s=>?_)
 obtain⟨i,j,hij,hj,lo,hi⟩:=s
 conv=>whnf
 split
 ·rename_i hc
  have hc:i < j:=by simpa using hc
  have hh:=half i j (by omega)
  have hm:(i + j) / 2 < l.length:=by omega
  conv=>whnf
  refine⟨by decide,?_⟩
  conv=>whnf
  simp only[hh]
  refine⟨trivial,_,⟨by first|omega|(simp only;omega),idxW hm⟩,?_⟩
  conv=>whnf
  refine callV_pure (less32_ok l[(i + j) / 2] t) ⟨.free .int,.free .int,trivial⟩ ?_
  conv=>whnf
  split
  ·rename_i h1
   have h1:l[(i + j) / 2] < t:=by simpa using h1
   conv=>whnf
   refine⟨⟨(i + j) / 2 + 1,j,by omega,hj,fun k hk hlt=>?_,hi⟩,(Wk.i (by repeat' (first|exact LHa|exact .int_of (wrap64_succ hm (show l.length≤maxLen by unfold maxLen;omega))|exact .A|exact LeL.fr rfl|exact LHb|refine Or.inl ⟨by simp,_,rfl,?_⟩|exact Or.inr ⟨by simp,_,_,_,_,rfl⟩|refine⟨rfl,rfl,rfl,rfl,rfl,rfl,?_⟩|refine⟨?_,?_⟩)) (by omega)),by simp only;omega⟩
   rcases Nat.lt_or_ge k ((i + j) / 2)with h2|h2
   ·have:=rises_lt hr h2 hm
    rw[UInt32.lt_iff_toNat_lt]at *
    omega
   ·obtain rfl:k=(i + j) / 2:=by omega
    exact h1
  ·rename_i h1
   have h1:¬ l[(i + j) / 2] < t:=by simpa using h1
   conv=>whnf
   refine⟨⟨i,(i + j) / 2,by omega,by omega,lo,fun k hk hle=>?_⟩,(Wk.i (by repeat' (first|exact LHa|exact .A|exact LeL.fr rfl|exact LHb|refine Or.inl ⟨by simp,_,rfl,?_⟩|exact Or.inr ⟨by simp,_,_,_,_,rfl⟩|refine⟨rfl,rfl,rfl,rfl,rfl,rfl,?_⟩|refine⟨?_,?_⟩)) (by omega)),by simp only;omega⟩
   rcases Nat.lt_or_ge ((i + j) / 2) k with h2|h2
   ·have:=rises_lt hr h2 hk
    rw[UInt32.lt_iff_toNat_lt]at *
    omega
   ·obtain rfl:k=(i + j) / 2:=by omega
    exact h1
 ·rename_i hc
  have hc:i=j:=by simp at hc;omega
  subst hc
  have hpi:i=p:=by
   rcases Nat.lt_trichotomy i p with h|h|h
   ·exact absurd (plo i (by omega) h) (hi i (by omega) (Nat.le_refl _))
   ·exact h
   ·exact absurd (lo p (by omega) h) (phi p (by omega) (Nat.le_refl _))
  subst hpi
  have hcont:l.contains t=true↔∃h:i < l.length,l[i]=t:=by
   rw[List.contains_iff_mem]
   constructor
   ·intro hm
    obtain⟨k,hk,e⟩:=List.mem_iff_getElem.1 hm
    rcases Nat.lt_trichotomy k i with h|h|h
    ·have:=lo k hk h
     rw[e]at this
     exact absurd this (UInt32.lt_irrefl _)
    ·subst h;exact⟨hk,e⟩
    ·have h1:=rises_lt hr h hk
     rw[e]at h1
     exact absurd h1 (hi i (by omega) (Nat.le_refl _))
   ·rintro ⟨h,e⟩
    exact List.mem_iff_getElem.2 ⟨i,h,e⟩
  conv=>whnf
  cases hin:decide ((i:Int) < (l.length:Int))with
  | true=>
   have hin:i < l.length:=by simpa using hin
   conv=>whnf
   refine ixK (idxW hin) ?_
   conv=>whnf
   cases heq:((l[i].toNat:Int) == (t.toNat:Int))with
   | true=>
    have heq:l[i]=t:=by simp at heq;exact UInt32.toNat_inj.1 (by omega)
    conv=>whnf
    exact(Ends.pure [] (by repeat' (first|exact True.intro|exact .int_of rfl|exact .bool_of (by symm;rw[hcont];exact⟨hin,heq⟩)|exact .A|exact LeL.fr rfl|refine .tupL ?_|refine .aggL ?_|refine⟨?_,?_⟩)) (by simp))
   | false=>
    have heq:l[i] ≠ t:=by intro e;rw[e]at heq;simp at heq
    conv=>whnf
    refine ixK (idxW hin) ?_
    conv=>whnf
    refine callV_pure (slNaN_ok l[i]) ⟨.free .int,trivial⟩ ?_
    conv=>whnf
    exact(Ends.pure [] (by repeat' (first|exact True.intro|exact .int_of rfl|exact .bool_of (by symm;rw[← Bool.not_eq_true,hcont];rintro ⟨_,e⟩;exact heq e)|exact .A|exact LeL.fr rfl|refine .tupL ?_|refine .aggL ?_|refine⟨?_,?_⟩)) (by simp))
  | false=>
   have hin:¬ i < l.length:=by simpa using hin
   conv=>whnf
   exact(Ends.pure [] (by repeat' (first|exact True.intro|exact .int_of rfl|exact .bool_of (by symm;rw[← Bool.not_eq_true,hcont];rintro ⟨h,_⟩;exact hin h)|exact .A|exact LeL.fr rfl|refine .tupL ?_|refine .aggL ?_|refine⟨?_,?_⟩)) (by simp))
end
section
open Go.Proofs.Tryz (prog)
attribute [local irreducible] CallV RoundV
theorem cp_mid {α:Type} {P Q S ys R:List α} {row n:Nat} (hR:R=P ++ Q ++ S) (hq:ys.length=Q.length) (hn:ys.length≤n) (hr:row=P.length):R.take row ++ ys.take n ++ R.drop (row + min ys.length n)=P ++ ys ++ S:=by
 subst hr;subst hR
 rw[List.take_of_length_le hn,Nat.min_eq_left hn,List.append_assoc P Q S,List.take_left,hq,← List.drop_drop,List.drop_left,List.drop_left]
theorem cp_cut {α:Type} {P Q S ys R:List α} {row n:Nat} (hR:R=P ++ Q ++ S) (hq:n=Q.length) (hn:n≤ys.length) (hr:row=P.length):R.take row ++ ys.take n ++ R.drop (row + min ys.length n)=P ++ ys.take n ++ S:=by
 subst hr;subst hR
 rw[Nat.min_eq_right hn,List.append_assoc P Q S,List.take_left,hq,← List.drop_drop,List.drop_left,List.drop_left]
theorem ins_grow {α:Type} {rows:List α} {x z:α} {i:Nat} (he:i < rows.length) :
   List.take (i + 1)
      (List.take i (List.take i rows ++ List.replicate (rows.length + 1 - i) z)++
        List.take (i + (rows.length + 1 - i) - i) [x]++
       List.drop (i + min [x].length (i + (rows.length + 1 - i) - i))
        (List.take i rows ++ List.replicate (rows.length + 1 - i) z))++
     List.take (i + (rows.length + 1 - i) - (i + 1)) (List.take (rows.length - i) (List.drop i rows))++
    List.drop
     (i + 1 + min (List.take (rows.length - i) (List.drop i rows)).length (i + (rows.length + 1 - i) - (i + 1)))
     (List.take i (List.take i rows ++ List.replicate (rows.length + 1 - i) z)++
       List.take (i + (rows.length + 1 - i) - i) [x]++
      List.drop (i + min [x].length (i + (rows.length + 1 - i) - i))
       (List.take i rows ++ List.replicate (rows.length + 1 - i) z))=List.take i rows ++ [x]++ List.drop i rows:=by
 have h1:rows.length + 1 - i=(rows.length - i)+ 1:=by omega
 rw[cp_mid (P:=rows.take i) (Q:=[z]) (S:=List.replicate (rows.length - i) z) (ys:=[x]) (R:=List.take i rows ++ List.replicate (rows.length + 1 - i) z) (n:=i + (rows.length + 1 - i) - i) (row:=i) (by rw[h1,List.replicate_succ];simp) rfl (by simp;omega) (by simp;omega)]
 rw[List.take_of_length_le (l:=rows.drop i) (by simp)]
 rw[cp_mid (P:=rows.take i ++ [x]) (Q:=List.replicate (rows.length - i) z) (S:=[]) (ys:=rows.drop i) (R:=rows.take i ++ [x]++ List.replicate (rows.length - i) z) (n:=i + (rows.length + 1 - i) - (i + 1)) (row:=i + 1) (by simp) (by simp) (by simp;omega) (by simp;omega)]
 rw[List.append_nil]
theorem ins_shift {α:Type} {rows:List α} {x z:α} {i k:Nat} (he:i < rows.length) (hk:0 < k) :
   List.take i
      (List.take (i + 1) (rows ++ List.replicate k z)++
        List.take (rows.length + 1 - (i + 1))
         (List.take (rows.length + 1 - i) (List.drop i (rows ++ List.replicate k z)))++
       List.drop
        (i + 1 +
         min
          (List.take (rows.length + 1 - i)
            (List.drop i (rows ++ List.replicate k z))).length
          (rows.length + 1 - (i + 1)))
        (rows ++ List.replicate k z))++
     List.take (rows.length + 1 - i) [x]++
    List.drop (i + min [x].length (rows.length + 1 - i))
     (List.take (i + 1) (rows ++ List.replicate k z)++
       List.take (rows.length + 1 - (i + 1))
        (List.take (rows.length + 1 - i) (List.drop i (rows ++ List.replicate k z)))++
      List.drop
       (i + 1 +
        min
         (List.take (rows.length + 1 - i)
           (List.drop i (rows ++ List.replicate k z))).length
         (rows.length + 1 - (i + 1)))
       (rows ++ List.replicate k z))=List.take i rows ++ [x]++ List.drop i rows ++ List.replicate (k - 1) z:=by
 obtain⟨k,rfl⟩:∃j,k=j + 1:=⟨k - 1,by omega⟩
 have hd:rows.drop i=rows[i] :: rows.drop (i + 1):=List.drop_eq_getElem_cons he
 have hys:List.take (rows.length + 1 - i) (List.drop i (rows ++ List.replicate (k + 1) z))=rows.drop i ++ [z]:=by
  rw[List.drop_append_of_le_length (by omega),List.take_append,List.take_of_length_le (by simp;omega),List.length_drop,show rows.length + 1 - i - (rows.length - i)=1 by omega,List.replicate_succ]
  rfl
 rw[hys]
 rw[cp_cut (P:=rows.take (i + 1)) (Q:=rows.drop (i + 1)++ [z]) (S:=List.replicate k z) (ys:=rows.drop i ++ [z]) (R:=rows ++ List.replicate (k + 1) z) (n:=rows.length + 1 - (i + 1)) (row:=i + 1) (by rw[← List.append_assoc,List.take_append_drop,List.replicate_succ];simp) (by simp;omega) (by simp) (by simp;omega)]
 rw[List.take_append_of_le_length (l₁:=rows.drop i) (l₂:=[z]) (by simp),List.take_of_length_le (l:=rows.drop i) (by simp)]
 rw[cp_mid (P:=rows.take i) (Q:=[rows[i]]) (S:=rows.drop i ++ List.replicate k z) (ys:=[x]) (R:=rows.take (i + 1)++ rows.drop i ++ List.replicate k z) (n:=rows.length + 1 - i) (row:=i) (by rw[List.take_succ_eq_append_getElem he];simp) rfl (by simp;omega) (by simp;omega)]
 simp
theorem insRows_free {rows:List (List V)} {x:List V} {i:Nat} (hf:∀r∈rows,∀v∈r,Free v) (hx:∀v∈x,Free v):∀r∈rows.take i ++ [x]++ rows.drop i,∀v∈r,Free v:=by
 intro r hr v hv
 simp only[List.mem_append,List.mem_singleton]at hr
 rcases hr with(h|rfl)|h
 ·exact hf r (List.mem_of_mem_take h) v hv
 ·exact hx v hv
 ·exact hf r (List.mem_of_mem_drop h) v hv
theorem insRows_free' {rows:List (List V)} {x:List V} {i k n:Nat} (hf:∀r∈rows,∀v∈r,Free v) (hx:∀v∈x,Free v):∀r∈rows.take i ++ [x]++ rows.drop i ++ List.replicate k (List.replicate n .any),∀v∈r,Free v:=by
 intro r hr v hv
 rcases List.mem_append.1 hr with h|h
 ·exact insRows_free hf hx r h v hv
 ·rw[List.eq_of_mem_replicate h]at hv
  rw[List.eq_of_mem_replicate hv]
  exact .any
theorem insertW_ok (rows:List (List V)) (x:List V) (hf:∀r∈rows,∀v∈r,Free v) (hx:∀v∈x,Free v) (ex:Bool) (hex:rows ≠ []→ex=true) (i k:Nat) (hl:rows.length≤1000) (hi:i≤rows.length) :
  CallV prog 161 [.osl 0 1 0 rows.length,cI i,.osl 1 1 0 1] [(0,some (.arr true ex 22 1 (rows ++ List.replicate k (List.replicate 1 .any)))),(1,some (.arr true true 22 1 [x]))] 2
   (fun v h' nx'=>∃k',v=.osl 2 1 0 (rows.length + 1)∧h'=[(2,some (.arr true false 22 1 (rows.take i ++ [x]++ rows.drop i ++ List.replicate k' (List.replicate 1 .any))))]∧nx'=3):=by
 refine callV_of (fn:=Go.Proofs.Tryz.f161) (body:=_) tab_ok mixed rfl rfl (by decide) (by simp[Go.Proofs.Tryz.f161]) ?_
 conv=>whnf
 refine⟨rfl,⟨by simp,by simp;omega⟩,?_⟩
 conv=>whnf
 intro _
 conv=>whnf
 intro _
 conv=>whnf
 split
 ·rename_i he
  have he:i=rows.length:=by simp at he;omega
  subst he
  conv=>whnf
  refine⟨rfl,by simp,⟨rfl,rfl,rfl,rfl,by decide⟩,by simp,⟨by simp[tab,tabOf,nth];omega,by simp;omega⟩,?_⟩
  conv=>whnf
  refine⟨_,_,_,?_,0,rfl,rfl,rfl⟩
  exact(Ends.all id [] (by repeat' (first|exact LHa|exact .osl_of rfl (by omega) (by simp)|exact LeB.eq_of (by simp[List.take_of_length_le]) (insRows_free' hf hx)|exact .A|exact LeL.fr rfl|exact LHb|refine Or.inl ⟨by simp,_,rfl,?_⟩|exact Or.inr ⟨by simp,_,_,_,_,rfl⟩|refine⟨rfl,rfl,rfl,rfl,rfl,rfl,?_⟩|refine⟨?_,?_⟩)) (fun _ _ _ _ h=>h) (fun _ _=>rfl) (by omega) (by simp))
 ·rename_i he
  have he:i < rows.length:=by simp at he;omega
  obtain rfl:=hex (fun e=>by subst e;simp at he)
  conv=>whnf
  refine⟨⟨rfl,by decide,by omega,rfl⟩,?_⟩
  conv=>whnf
  have hw1:IntKind.i64.wrap ((rows.length:Int)+ ((1:Nat):Int))=((rows.length + 1:Nat):Int):=by rw[wrap64]<;>omega
  have hw2:IntKind.i64.wrap (IntKind.i64.wrap ((rows.length:Int)+ ((1:Nat):Int)) - (i:Int))=((rows.length + 1 - i:Nat):Int):=by rw[hw1,wrap64]<;>omega
  have hw3:IntKind.i64.wrap ((i:Int)+ ((1:Nat):Int))=((i + 1:Nat):Int):=by rw[wrap64]<;>omega
  split
  ·rename_i hc
   have hk0:k=0:=by rw[hw1]at hc;simp at hc;omega
   subst hk0
   conv=>whnf
   refine⟨rfl,.own,⟨trivial,by simp,by simp,by simp;omega⟩,?_⟩
   conv=>whnf
   refine⟨⟨rfl,rfl,rfl,by decide,by rw[hw2];omega⟩,by simp;omega,⟨by rw[hw2];simp[tab,tabOf,nth];omega,by rw[hw2];simp;omega⟩,true,⟨rfl,by rw[hw2];simp;omega⟩,?_⟩
   conv=>whnf
   refine⟨rfl,⟨by simp,by simp⟩,?_⟩
   conv=>whnf
   refine⟨rfl,by simp,⟨rfl,rfl,rfl⟩,by rw[hw2];simp;omega,?_⟩
   conv=>whnf
   refine⟨rfl,⟨by rw[hw3];omega,by rw[hw2,hw3];simp;omega⟩,?_⟩
   conv=>whnf
   refine⟨rfl,⟨by simp,by simp;omega⟩,?_⟩
   conv=>whnf
   refine⟨rfl,by simp,⟨rfl,rfl,rfl⟩,by rw[hw2,hw3];simp;omega,?_⟩
   conv=>whnf
   refine⟨by kernel_rfl,?_⟩
   conv=>whnf
   refine⟨_,_,_,?_,0,rfl,rfl,rfl⟩
   refine(Ends.all id [] (by repeat' (first|exact LHa|exact .osl_of rfl (by omega) (by rw[hw2];simp;omega)|exact⟨id,(fun h=>by cases h),rfl,rfl,LeR.out (LeR.of_eq (by simp only[hw2,hw3,Int.toNat_natCast,Nat.zero_add,Nat.sub_zero,List.drop_zero,List.take_succ_cons,List.take_zero,List.replicate_zero,List.append_nil];exact ins_grow he) (LeR.free (insRows_free' hf hx)))⟩|exact .A|exact LeL.fr rfl|exact LHb|refine Or.inl ⟨by simp,_,rfl,?_⟩|exact Or.inr ⟨by simp,_,_,_,_,rfl⟩|refine⟨rfl,rfl,rfl,rfl,rfl,rfl,?_⟩|refine⟨?_,?_⟩)) (fun _ _ _ _ h=>h) (fun _ _=>rfl) (by omega) (by simp))
  ·rename_i hc
   have hk0:0 < k:=by rw[hw1]at hc;simp at hc;omega
   conv=>whnf
   refine⟨rfl,.past,rfl,by decide,by omega,⟨trivial,by rw[hw1];omega,rfl,by rw[hw1];simp;omega⟩,?_⟩
   conv=>whnf
   refine⟨rfl,⟨by rw[hw3];omega,by rw[hw1,hw3];simp;omega⟩,?_⟩
   conv=>whnf
   refine callV_overlaps tab_ok (t:=33) (r:=4) (e:=22) rfl (by simp[tab,tabOf,nth]) (by decide) rfl rfl rfl rfl rfl rfl rfl (by decide) ?_
   conv=>whnf
   refine⟨rfl,⟨by rw[hw3];omega,by rw[hw1,hw3];simp;omega⟩,?_⟩
   conv=>whnf
   refine⟨rfl,⟨by simp,by rw[hw1];simp;omega⟩,?_⟩
   conv=>whnf
   refine⟨rfl,by rw[hw1];simp;omega,⟨rfl,rfl,rfl⟩,by rw[hw1,hw3];simp;omega,?_⟩
   conv=>whnf
   refine⟨by kernel_rfl,?_⟩
   conv=>whnf
   refine⟨rfl,⟨by simp,by rw[hw1];simp;omega⟩,?_⟩
   conv=>whnf
   refine⟨rfl,by simp,⟨rfl,rfl,rfl⟩,by rw[hw1];simp;omega,?_⟩
   conv=>whnf
   refine⟨_,_,_,?_,k - 1,rfl,rfl,rfl⟩
   refine(Ends.all (renOf [(2,0)]) [] (by repeat' (first|exact LHa|exact .osl_of rfl (by omega) (by rw[hw1];simp)|exact⟨id,(fun h=>by cases h),rfl,rfl,LeR.out (LeR.of_eq (by simp only[hw1,hw3,Int.toNat_natCast,Nat.zero_add,Nat.sub_zero,List.drop_zero,List.take_succ_cons,List.take_zero,List.replicate_zero,List.append_nil];exact ins_shift he hk0) (LeR.free (insRows_free' hf hx)))⟩|exact .A|exact LeL.fr rfl|exact LHb|refine Or.inl ⟨by simp,_,rfl,?_⟩|exact Or.inr ⟨by simp,_,_,_,_,rfl⟩|refine⟨rfl,rfl,rfl,rfl,rfl,rfl,?_⟩|refine⟨?_,?_⟩)) (show ∀b∈([2]:List Nat),∀b'∈([2]:List Nat),(renOf [(2,0)]) b=(renOf [(2,0)]) b'→b=b' by decide) (show ∀b,b < 2→(renOf [(2,0)]) b=b by decide) (by omega) (by simp))
theorem insertL_ok (rows:List (List V)) (x:List V) (hf:∀r∈rows,∀v∈r,Free v) (hx:∀v∈x,Free v) (ex:Bool) (hex:rows ≠ []→ex=true) (i k:Nat) (hl:rows.length≤1000) (hi:i≤rows.length) :
  CallV prog 126 [.osl 0 2 0 rows.length,cI i,.osl 1 2 0 1] [(0,some (.arr true ex 91 2 (rows ++ List.replicate k (List.replicate 2 .any)))),(1,some (.arr true true 91 2 [x]))] 2
   (fun v h' nx'=>∃k',v=.osl 2 2 0 (rows.length + 1)∧h'=[(2,some (.arr true false 91 2 (rows.take i ++ [x]++ rows.drop i ++ List.replicate k' (List.replicate 2 .any))))]∧nx'=3):=by
 refine callV_of (fn:=Go.Proofs.Tryz.f126) (body:=_) tab_ok mixed rfl rfl (by decide) (by simp[Go.Proofs.Tryz.f126]) ?_
 conv=>whnf
 refine⟨rfl,⟨by simp,by simp;omega⟩,?_⟩
 conv=>whnf
 intro _
 conv=>whnf
 intro _
 conv=>whnf
 split
 ·rename_i he
  have he:i=rows.length:=by simp at he;omega
  subst he
  conv=>whnf
  refine⟨rfl,by simp,⟨rfl,rfl,rfl,rfl,by decide⟩,by simp,⟨by simp[tab,tabOf,nth];omega,by simp;omega⟩,?_⟩
  conv=>whnf
  refine⟨_,_,_,?_,0,rfl,rfl,rfl⟩
  exact(Ends.all id [] (by repeat' (first|exact LHa|exact .osl_of rfl (by omega) (by simp)|exact LeB.eq_of (by simp[List.take_of_length_le]) (insRows_free' hf hx)|exact .A|exact LeL.fr rfl|exact LHb|refine Or.inl ⟨by simp,_,rfl,?_⟩|exact Or.inr ⟨by simp,_,_,_,_,rfl⟩|refine⟨rfl,rfl,rfl,rfl,rfl,rfl,?_⟩|refine⟨?_,?_⟩)) (fun _ _ _ _ h=>h) (fun _ _=>rfl) (by omega) (by simp))
 ·rename_i he
  have he:i < rows.length:=by simp at he;omega
  obtain rfl:=hex (fun e=>by subst e;simp at he)
  conv=>whnf
  refine⟨⟨rfl,by decide,by omega,rfl⟩,?_⟩
  conv=>whnf
  have hw1:IntKind.i64.wrap ((rows.length:Int)+ ((1:Nat):Int))=((rows.length + 1:Nat):Int):=by rw[wrap64]<;>omega
  have hw2:IntKind.i64.wrap (IntKind.i64.wrap ((rows.length:Int)+ ((1:Nat):Int)) - (i:Int))=((rows.length + 1 - i:Nat):Int):=by rw[hw1,wrap64]<;>omega
  have hw3:IntKind.i64.wrap ((i:Int)+ ((1:Nat):Int))=((i + 1:Nat):Int):=by rw[wrap64]<;>omega
  split
  ·rename_i hc
   have hk0:k=0:=by rw[hw1]at hc;simp at hc;omega
   subst hk0
   conv=>whnf
   refine⟨rfl,.own,⟨trivial,by simp,by simp,by simp;omega⟩,?_⟩
   conv=>whnf
   refine⟨⟨rfl,rfl,rfl,by decide,by rw[hw2];omega⟩,by simp;omega,⟨by rw[hw2];simp[tab,tabOf,nth];omega,by rw[hw2];simp;omega⟩,true,⟨rfl,by rw[hw2];simp;omega⟩,?_⟩
   conv=>whnf
   refine⟨rfl,⟨by simp,by simp⟩,?_⟩
   conv=>whnf
   refine⟨rfl,by simp,⟨rfl,rfl,rfl⟩,by rw[hw2];simp;omega,?_⟩
   conv=>whnf
   refine⟨rfl,⟨by rw[hw3];omega,by rw[hw2,hw3];simp;omega⟩,?_⟩
   conv=>whnf
   refine⟨rfl,⟨by simp,by simp;omega⟩,?_⟩
   conv=>whnf
   refine⟨rfl,by simp,⟨rfl,rfl,rfl⟩,by rw[hw2,hw3];simp;omega,?_⟩
   conv=>whnf
   refine⟨by kernel_rfl,?_⟩
   conv=>whnf
   refine⟨_,_,_,?_,0,rfl,rfl,rfl⟩
   refine(Ends.all id [] (by repeat' (first|exact LHa|exact .osl_of rfl (by omega) (by rw[hw2];simp;omega)|exact⟨id,(fun h=>by cases h),rfl,rfl,LeR.out (LeR.of_eq (by simp only[hw2,hw3,Int.toNat_natCast,Nat.zero_add,Nat.sub_zero,List.drop_zero,List.take_succ_cons,List.take_zero,List.replicate_zero,List.append_nil];exact ins_grow he) (LeR.free (insRows_free' hf hx)))⟩|exact .A|exact LeL.fr rfl|exact LHb|refine Or.inl ⟨by simp,_,rfl,?_⟩|exact Or.inr ⟨by simp,_,_,_,_,rfl⟩|refine⟨rfl,rfl,rfl,rfl,rfl,rfl,?_⟩|refine⟨?_,?_⟩)) (fun _ _ _ _ h=>h) (fun _ _=>rfl) (by omega) (by simp))
  ·rename_i hc
   have hk0:0 < k:=by rw[hw1]at hc;simp at hc;omega
   conv=>whnf
   refine⟨rfl,.past,rfl,by decide,by omega,⟨trivial,by rw[hw1];omega,rfl,by rw[hw1];simp;omega⟩,?_⟩
   conv=>whnf
   refine⟨rfl,⟨by rw[hw3];omega,by rw[hw1,hw3];simp;omega⟩,?_⟩
   conv=>whnf
   refine callV_overlaps tab_ok (t:=32) (r:=4) (e:=91) rfl (by simp[tab,tabOf,nth]) (by decide) rfl rfl rfl rfl rfl rfl rfl (by decide) ?_
   conv=>whnf
   refine⟨rfl,⟨by rw[hw3];omega,by rw[hw1,hw3];simp;omega⟩,?_⟩
   conv=>whnf
   refine⟨rfl,⟨by simp,by rw[hw1];simp;omega⟩,?_⟩
   conv=>whnf
   refine⟨rfl,by rw[hw1];simp;omega,⟨rfl,rfl,rfl⟩,by rw[hw1,hw3];simp;omega,?_⟩
   conv=>whnf
   refine⟨by kernel_rfl,?_⟩
   conv=>whnf
   refine⟨rfl,⟨by simp,by rw[hw1];simp;omega⟩,?_⟩
   conv=>whnf
   refine⟨rfl,by simp,⟨rfl,rfl,rfl⟩,by rw[hw1];simp;omega,?_⟩
   conv=>whnf
   refine⟨_,_,_,?_,k - 1,rfl,rfl,rfl⟩
   refine(Ends.all (renOf [(2,0)]) [] (by repeat' (first|exact LHa|exact .osl_of rfl (by omega) (by rw[hw1];simp)|exact⟨id,(fun h=>by cases h),rfl,rfl,LeR.out (LeR.of_eq (by simp only[hw1,hw3,Int.toNat_natCast,Nat.zero_add,Nat.sub_zero,List.drop_zero,List.take_succ_cons,List.take_zero,List.replicate_zero,List.append_nil];exact ins_shift he hk0) (LeR.free (insRows_free' hf hx)))⟩|exact .A|exact LeL.fr rfl|exact LHb|refine Or.inl ⟨by simp,_,rfl,?_⟩|exact Or.inr ⟨by simp,_,_,_,_,rfl⟩|refine⟨rfl,rfl,rfl,rfl,rfl,rfl,?_⟩|refine⟨?_,?_⟩)) (show ∀b∈([2]:List Nat),∀b'∈([2]:List Nat),(renOf [(2,0)]) b=(renOf [(2,0)]) b'→b=b' by decide) (show ∀b,b < 2→(renOf [(2,0)]) b=b by decide) (by omega) (by simp))
end
section
open Go.Proofs.Tryz (prog)
attribute [local irreducible] CallV RoundV
theorem ins_eq {l:List UInt32} {t:UInt32} {i:Nat} (hi:i≤l.length) (lo:∀(k:Nat) (hk:k < l.length),k < i→l[k] < t) (hi':∀(k:Nat) (hk:k < l.length),i≤k→¬ l[k] < t) (hno:l.contains t=false):l.take i ++ [t]++ l.drop i=insT l t:=by
 induction l generalizing i with
 | nil=>simp[insT]
 | cons y r ih=>
  have hny:y ≠ t:=fun e=>by simp[e]at hno
  cases i with
  | zero=>
   have h0:=hi' 0 (by simp) (Nat.le_refl _)
   simp only[List.getElem_cons_zero]at h0
   have hlt:t < y:=by
    rw[UInt32.lt_iff_toNat_lt]at *
    have:y.toNat ≠ t.toNat:=fun e=>hny (UInt32.toNat_inj.1 e)
    omega
   simp[insT,hlt]
  | succ i=>
   have h0:=lo 0 (by simp) (by omega)
   simp only[List.getElem_cons_zero]at h0
   have hnl:¬ t < y:=by rw[UInt32.lt_iff_toNat_lt]at *;omega
   have:=ih (i:=i) (by simpa using hi) (fun k hk hlt=>by have:=lo (k + 1) (by simpa using hk) (by omega);simpa using this) (fun k hk hle=>by have:=hi' (k + 1) (by simpa using hk) (by omega);simpa using this) (by simp at hno ⊢;exact hno.2)
   simp only[insT,if_neg hnl,List.take_succ_cons,List.drop_succ_cons,List.cons_append]
   rw[← this]
theorem few_of_right {a:Attrs} (h:rightA a=true):a.path.length≤8∧(∀p∈a.path,p.ns.length≤32)∧a.tags.length≤16∧rises a.tags=true:=by
 have h1:=pathOk_all (right_path h)
 refine⟨h1.1,fun p hp=>(legOk_ns (h1.2 p hp)).2.1,?_,?_⟩
 ·simp[rightA]at h;have:=h.1.2;omega
 ·simp[rightA]at h;exact h.2
theorem openW_free (l:List UInt32) (k:Nat):∀x∈rowsW l ++ List.replicate k (List.replicate 1 V.any),∀v∈x,Free v:=by
 have:=insRows_free' (rows:=rowsW l) (x:=[]) (i:=l.length) (k:=k) (n:=1) (rowsW_free _) (by simp)
 intro x hx v hv
 rcases List.mem_append.1 hx with h|h
 ·exact rowsW_free l x h v hv
 ·rw[List.eq_of_mem_replicate h]at hv
  rw[List.eq_of_mem_replicate hv]
  exact .any
theorem less_encA (fr:Bool) {a:Attrs}:Less (encA fr a) (encA false a):=by
 cases fr with
 | false=>exact .refl _
 | true=>exact .agg2 (.refl _) (.agg2 .legs (.agg2 (.refl _) (.agg2 (.refl _) (.agg2 (.refl _) (.agg2 (.refl _) (.agg2 (.refl _) (.agg2 .encW (.refl _))))))))
theorem tag_ok (fr:Bool) (a:Attrs) (t:UInt32):PCon prog 124 [encA fr a,cW t] (tagV true a t):=by
 refine callV_of (fn:=Go.Proofs.Tryz.f124) (body:=_) tab_ok mixed rfl rfl (by decide) (by simp[Go.Proofs.Tryz.f124]) ?_
 conv=>whnf
 refine callV_pure (check_ok fr a) ⟨.free (encA_free _ _),trivial⟩ ?_
 cases hr:rightA a with
 | false=>
  rw[tagV_bad hr,checkA_no hr]
  conv=>whnf
  exact(Ends.pure [] (by repeat' (first|exact True.intro|exact .noA|exact .A|exact LeL.fr rfl|refine .tupL ?_|refine .aggL ?_|refine⟨?_,?_⟩)) (by simp))
 | true=>
 rw[checkA_yes hr]
 obtain⟨hpl,hp,htl,hri⟩:=few_of_right hr
 conv=>whnf
 refine callV_vown (nx:=2) [] (copyT_ok false a (by omega) (fun p h=>by have:=hp p h;omega) (by omega)) ⟨.less (.free (encA_free fr a)) (less_encA fr),trivial⟩ (by intro v hv;simp at hv;subst hv;exact encA_cold _) (by simp) (rowsW_ff _) (ownT_mov a) ?_
 conv=>whnf
 obtain⟨i,hi,lo,hi',hbs⟩:=bs_ok false a.tags t hri (by omega)
 refine callV_lend [2] hbs ⟨.fresh_off (LeV.freeze_of (by simp) rfl (by simp) (rowsW_free _) (List.take_of_length_le (by simp))),.free .int,trivial⟩ (by intro v hv;simp at hv;rcases hv with rfl|rfl;exact encW_cold _;exact .int) (one_none rfl) (.tup (by intro v hv;simp at hv;rcases hv with rfl|rfl;exact .int;exact .bool)) ?_
 cases hc:a.tags.contains t with
 | true=>
  rw[tagV_in hr hc]
  conv=>whnf
  intro _
  conv=>whnf
  (split<;>first|(rename_i hh;exfalso;first|(simp at hh;done)|(simp at hh;omega))|skip);(conv=>whnf)
  exact(Ends.pure [2] (by repeat' (first|exact True.intro|exact LeV.freezeE (by simp) rfl (by simp) (List.take_of_length_le (by simp)) (rowsW_free _)|exact .A|exact LeL.fr rfl|refine .tupL ?_|refine .aggL ?_|refine⟨?_,?_⟩)) (by intro z hz;simp only[List.mem_cons,List.not_mem_nil,or_false]at hz;rcases hz with rfl<;>exact ne_none_of rfl))
 | false=>
  have fin:∀{s:St} {k:Nat} {l:List UInt32},hget s.h 4=some (.arr true false 22 1 (rowsW l ++ List.replicate k (List.replicate 1 V.any)))→l=insT a.tags t→a.tags.length < 16 →
    ∃v1 h' nx',Ends 0 s (.tup [.agg [cB a.origin,encLegs true a.path,cW a.next,.bool a.hasMed,cW a.med,.bool a.hasPref,cW a.pref,.osl 4 1 0 (a.tags.length + 1)],.int .i64 0]) v1 h' nx'∧(v1=tagV true a t∧h'=[]∧nx'=0):=fun h4 hl hlt=>by
   rw[tagV_new hr hc hlt]
   have hn:a.tags.length + 1=(rowsW (insT a.tags t)).length:=by simp[insT_len]
   refine Ends.pure [4] (.tupL ⟨.aggL ⟨.free .int,.free (encLegs_free _ _),.free .int,.free .bool,.free .int,.free .bool,.free .int,LeV.freezeE (by simp) h4 ?_ ?_ (rowsW_free _),trivial⟩,.free .int,trivial⟩) (by intro z hz;simp at hz;subst hz;rw[h4];simp)
   ·subst hl;rw[hn,List.length_append];omega
   ·subst hl
    rw[hn,List.drop_zero]
    exact List.take_left
  have long:∀{s:St} {v:V},16≤a.tags.length→LeV s.h s.nx id 0 [] v (encA true noA)→∃v1 h' nx',Ends 0 s (.tup [v,.int .i64 3]) v1 h' nx'∧(v1=tagV true a t∧h'=[]∧nx'=0):=fun hl hv=>by
   rw[tagV_long hr hc hl]
   exact Ends.pure [] (.tupL ⟨hv,.free .int,trivial⟩) (by simp)
  have hrow:∀v∈[cW t],Free v:=by intro v hv;simp at hv;subst hv;exact .int
  have hins:rowsW (insT a.tags t)=(rowsW a.tags).take i ++ [[cW t]]++ (rowsW a.tags).drop i:=by
   rw[← ins_eq hi lo hi' hc];simp
  conv=>whnf
  by_cases hne:a.tags=[]
  ·refine callV_frame (nx:=4) (n0:=2) (renOf [(0,2),( 1,3)]) (insertW_ok (rowsW a.tags) [cW t] (rowsW_free _) hrow false (fun h=>absurd (by simp[hne]) h) i 0 (by simp;omega) (by simp;exact hi)) (by repeat' (first|exact True.intro|exact .osl_of rfl (by omega) (by simp)|exact LeB.arrE (by simp) (rowsW_free a.tags) id id|exact LeB.arrE rfl (rowsW_free [t]) id id|exact .A|exact LeL.fr rfl|refine⟨?_,?_⟩)) (LeH.of (by repeat' (first|exact LHa|exact .osl_of rfl (by omega) (by simp)|exact LeB.arrE (by simp) (rowsW_free a.tags) id id|exact LeB.arrE rfl (rowsW_free [t]) id id|exact .A|exact LeL.fr rfl|exact LHb|refine Or.inl ⟨by simp,_,rfl,?_⟩|exact Or.inr ⟨by simp,_,_,_,_,rfl⟩|refine⟨rfl,rfl,rfl,rfl,rfl,rfl,?_⟩|refine⟨?_,?_⟩)) (show ∀b∈([0,1]:List Nat),∀b'∈([0,1]:List Nat),(renOf [(0,2),( 1,3)]) b=(renOf [(0,2),( 1,3)]) b'→b=b' by decide) (fun _ h=>by omega) (by omega) (by simp)) (fun b hb=>by match b,hb with|0,_=>exact ne_none_of rfl|1,_=>exact ne_none_of rfl) (by decide) ?_
   rintro v h' nx' ⟨k',rfl,rfl,rfl⟩ _
   refine⟨.osl 4 1 0 (a.tags.length + 1),[(4,some (.arr true false 22 1 (rowsW (insT a.tags t)++ List.replicate k' (List.replicate 1 .any)))),(0,some _),(1,some _)],by rw[show(rowsW a.tags).length=a.tags.length by simp];exact Ren.osl rfl,(by repeat' (first|exact True.intro|exact Or.inr ⟨by decide,rfl⟩|exact Or.inl ⟨2,rfl,by omega,_,rfl,by rw[hins];exact RenB.arr (insRows_free' (rowsW_free _) hrow)⟩|refine⟨?_,?_⟩)),?_⟩
   conv=>whnf
   intro _
   conv=>whnf
   split
   ·rename_i h16
    conv=>whnf
    exact long (by simp at h16;omega) .noA
   ·rename_i h16
    conv=>whnf
    exact fin rfl rfl (by simp at h16;omega)
  ·refine callV_open rfl (by decide) (by simpa using hne) 0 rfl (List.length_pos_iff.2 hne) fun k=>?_
   refine callV_frame (nx:=4) (n0:=2) (renOf [(0,2),( 1,3)]) (insertW_ok (rowsW a.tags) [cW t] (rowsW_free _) hrow true (fun _=>rfl) i k (by simp;omega) (by simp;exact hi)) (by repeat' (first|exact True.intro|exact .osl_of rfl (by omega) (by simp)|exact LeB.arrE rfl (openW_free a.tags k) id id|exact LeB.arrE rfl (rowsW_free [t]) id id|exact .A|exact LeL.fr rfl|refine⟨?_,?_⟩)) (LeH.of (by repeat' (first|exact LHa|exact .osl_of rfl (by omega) (by simp)|exact LeB.arrE rfl (openW_free a.tags k) id id|exact LeB.arrE rfl (rowsW_free [t]) id id|exact .A|exact LeL.fr rfl|exact LHb|refine Or.inl ⟨by simp,_,rfl,?_⟩|exact Or.inr ⟨by simp,_,_,_,_,rfl⟩|refine⟨rfl,rfl,rfl,rfl,rfl,rfl,?_⟩|refine⟨?_,?_⟩)) (show ∀b∈([0,1]:List Nat),∀b'∈([0,1]:List Nat),(renOf [(0,2),( 1,3)]) b=(renOf [(0,2),( 1,3)]) b'→b=b' by decide) (fun _ h=>by omega) (by omega) (by simp)) (fun b hb=>by match b,hb with|0,_=>exact ne_none_of rfl|1,_=>exact ne_none_of rfl) (by decide) ?_
   rintro v h' nx' ⟨k',rfl,rfl,rfl⟩ _
   refine⟨.osl 4 1 0 (a.tags.length + 1),[(4,some (.arr true false 22 1 (rowsW (insT a.tags t)++ List.replicate k' (List.replicate 1 .any)))),(0,some _),(1,some _)],by rw[show(rowsW a.tags).length=a.tags.length by simp];exact Ren.osl rfl,(by repeat' (first|exact True.intro|exact Or.inr ⟨by decide,rfl⟩|exact Or.inl ⟨2,rfl,by omega,_,rfl,by rw[hins];exact RenB.arr (insRows_free' (rowsW_free _) hrow)⟩|refine⟨?_,?_⟩)),?_⟩
   conv=>whnf
   intro _
   conv=>whnf
   split
   ·rename_i h16
    conv=>whnf
    exact long (by simp at h16;omega) .noA
   ·rename_i h16
    conv=>whnf
    exact fin rfl rfl (by simp at h16;omega)
end
section
open Go.Proofs.Tryz (prog)
attribute [local irreducible] CallV RoundV
theorem openL_free {rows:List (List V)} (hf:∀x∈rows,∀v∈x,Free v) (k:Nat):∀x∈rows ++ List.replicate k (List.replicate 2 V.any),∀v∈x,Free v:=by
 intro x hx v hv
 rcases List.mem_append.1 hx with h|h
 ·exact hf x h v hv
 ·rw[List.eq_of_mem_replicate h]at hv
  rw[List.eq_of_mem_replicate hv]
  exact .any
theorem rowsLegs_ff (l:List Leg):∀x∈l.map (encLeg true),∀v∈x,Free v∧Fresh v:=by
 intro x hx v hv
 obtain⟨p,_,rfl⟩:=List.mem_map.1 hx
 simp[encLeg]at hv
 rcases hv with rfl|rfl
 ·exact⟨.bool,.bool⟩
 ·exact⟨encW_free _ _,encW_fresh _⟩
theorem prepend_ok (fr:Bool) (a:Attrs) (x:UInt32) (n:Int):PCon prog 79 [encA fr a,cW x,.int .i64 n] (prepV true a x n):=by
 have bad:∀{s:St} {v:V},badPre a x n=true→LeV s.h s.nx id 0 [] v (encA true noA)→∃v1 h' nx',Ends 0 s (.tup [v,.int .i64 2]) v1 h' nx'∧(v1=prepV true a x n∧h'=[]∧nx'=0):=fun hb hv=>by
  rw[prepV_bad hb]
  exact Ends.pure [] (.tupL ⟨hv,.free .int,trivial⟩) (by simp)
 refine callV_of (fn:=Go.Proofs.Tryz.f79) (body:=_) tab_ok mixed rfl rfl (by decide) (by simp[Go.Proofs.Tryz.f79]) ?_
 conv=>whnf
 refine callV_pure (check_ok fr a) ⟨.free (encA_free _ _),trivial⟩ ?_
 cases hr:rightA a with
 | false=>
  rw[checkA_no hr]
  conv=>whnf
  exact bad (by simp[badPre,hr]) .noA
 | true=>
 rw[checkA_yes hr]
 obtain⟨hpl,hp,htl,hri⟩:=few_of_right hr
 conv=>whnf
 cases hx:((x.toNat:Int) == 0)with
 | true=>
  conv=>whnf
  exact bad (by rw[u32_eq]at hx;simp[badPre,hx]) .noA
 | false=>
 conv=>whnf
 cases hn:decide (n < 0)with
 | true=>
  conv=>whnf
  exact bad (by simp[badPre,hn]) .noA
 | false=>
 conv=>whnf
 cases h8:decide (8 < n)with
 | true=>
  conv=>whnf
  exact bad (by simp[badPre,h8]) .noA
 | false=>
 have hb:badPre a x n=false:=by rw[u32_eq]at hx;simp[badPre,hr,hx,hn,h8]
 conv=>whnf
 refine callV_vown (nx:=2) [] (copy_ok false a (by omega) (fun p h=>by have:=hp p h;omega) (by omega)) ⟨.less (.free (encA_free fr a)) (less_encA fr),trivial⟩ (by intro v hv;simp at hv;subst hv;exact encA_cold _) (by simp) (rowsLegs_ff _) (ownA_mov a) ?_
 conv=>whnf
 cases h0:(n == 0)with
 | true=>
  have h0:n=0:=by simpa using h0
  subst h0
  rw[prepV_zero hb]
  conv=>whnf
  exact(Ends.pure [2] (by repeat' (first|exact True.intro|exact LeV.freezeE (by simp) rfl (by simp) (List.take_of_length_le (by simp)) (rowsLegs_free _ _)|exact .A|exact LeL.fr rfl|refine .tupL ?_|refine .aggL ?_|refine⟨?_,?_⟩)) (by intro z hz;simp only[List.mem_cons,List.not_mem_nil,or_false]at hz;rcases hz with rfl<;>exact ne_none_of rfl))
 | false=>
 have h0:n ≠ 0:=by simpa using h0
 obtain⟨n,rfl⟩:∃k:Nat,n=k:=⟨n.toNat,by have:=of_decide_eq_false hn;omega⟩
 have hk:n≤8:=by have:=of_decide_eq_false h8;omega
 have hk0:0 < n:=by omega
 have fin:∀{s:St} {vp:V} (Z:List Nat),pathOk (prePath a.path x n)=true→LeV s.h s.nx id 0 Z vp (encLegs true (prePath a.path x n))→(∀z∈Z,hget s.h z ≠ none) →
   ∃v1 h' nx',Ends 0 s (.tup [.agg [cB a.origin,vp,cW a.next,.bool a.hasMed,cW a.med,.bool a.hasPref,cW a.pref,encW true a.tags],.int .i64 0]) v1 h' nx'∧(v1=prepV true a x n∧h'=[]∧nx'=0):=fun Z hlp hv hz=>by
  rw[prepV_ok hb h0 hlp]
  exact Ends.pure Z (.tupL ⟨.aggL ⟨.free .int,hv,.free .int,.free .bool,.free .int,.free .bool,.free .int,.free (encW_free _ _),trivial⟩,.free .int,trivial⟩) hz
 have long:∀{s:St} {v:V},pathOk (prePath a.path x n)=false→LeV s.h s.nx id 0 [] v (encA true noA)→∃v1 h' nx',Ends 0 s (.tup [v,.int .i64 3]) v1 h' nx'∧(v1=prepV true a x n∧h'=[]∧nx'=0):=fun hlp hv=>by
  rw[prepV_long hb h0 hlp]
  exact Ends.pure [] (.tupL ⟨hv,.free .int,trivial⟩) (by simp)
 conv=>whnf
 intro _
 conv=>whnf
 obtain⟨o,l,nn,hm,m,hq,q,tg⟩:=a
 simp only at hpl hp
 have hrow:∀v∈[V.bool false,V.snil],Free v:=by intro v hv;simp at hv;rcases hv with rfl|rfl;exact .bool;exact .snil
 rcases l with _|⟨⟨st,ns⟩,r⟩
 ·conv=>whnf
  refine callV_frame (nx:=4) (n0:=2) (renOf [(0,2),( 1,3)]) (insertL_ok [] [.bool false,.snil] (by simp) hrow false (fun h=>absurd rfl h) 0 0 (by simp) (by simp)) (by repeat' (first|exact True.intro|exact .osl_of rfl (by omega) (by simp)|exact LeB.arrE (xs:=[]) rfl (by simp) id id|exact LeB.arrE rfl (by intro y hy;simp only[List.mem_singleton]at hy;subst hy;exact hrow) id id|exact .A|exact LeL.fr rfl|refine⟨?_,?_⟩)) (LeH.of (by repeat' (first|exact LHa|exact .osl_of rfl (by omega) (by simp)|exact LeB.arrE (xs:=[]) rfl (by simp) id id|exact LeB.arrE rfl (by intro y hy;simp only[List.mem_singleton]at hy;subst hy;exact hrow) id id|exact .A|exact LeL.fr rfl|exact LHb|refine Or.inl ⟨by simp,_,rfl,?_⟩|exact Or.inr ⟨by simp,_,_,_,_,rfl⟩|refine⟨rfl,rfl,rfl,rfl,rfl,rfl,?_⟩|refine⟨?_,?_⟩)) (show ∀b∈([0,1]:List Nat),∀b'∈([0,1]:List Nat),(renOf [(0,2),( 1,3)]) b=(renOf [(0,2),( 1,3)]) b'→b=b' by decide) (fun _ h=>by omega) (by omega) (by simp)) (fun b hb=>by match b,hb with|0,_=>exact ne_none_of rfl|1,_=>exact ne_none_of rfl) (by decide) ?_
  rintro v h' nx' ⟨k',rfl,rfl,rfl⟩ _
  refine⟨.osl 4 2 0 1,[(4,some (.arr true false 91 2 ([.bool false,.snil] :: List.replicate k' (List.replicate 2 .any)))),(0,some _),(1,some _)],Ren.osl rfl,(by repeat' (first|exact True.intro|exact Or.inr ⟨by decide,rfl⟩|exact Or.inl ⟨2,rfl,by omega,_,rfl,RenB.arr (openL_free (rows:=[[.bool false,.snil]]) (by intro y hy;simp only[List.mem_singleton]at hy;subst hy;exact hrow) k')⟩|refine⟨?_,?_⟩)),?_⟩
  conv=>whnf
  refine⟨encW true (List.replicate n x),[(5,some (.arr true true 22 1 (rowsW [x])))],fun h nx hrd=>?_,?_,?_⟩
  ·have h8:=hrd 5 _ (List.mem_singleton.2 rfl)
   refine pureV_lend [5] (repeat_ok false x n hk) ⟨LeV.fresh_off (LeV.freeze_of (by simp) h8 (by simp) (rowsW_free [x]) rfl),.int_of rfl,trivial⟩ ?_ (one_none h8) (encW_fresh _)
   intro v hv
   simp at hv
   rcases hv with rfl|rfl
   ·exact encW_cold _
   ·exact .int
  ·intro b ob hm
   obtain⟨rfl,rfl⟩:b=5∧ob=_:=by simpa using hm
   rfl
  conv=>whnf
  refine⟨rfl,⟨by decide,by simp;try omega⟩,?_⟩
  conv=>whnf
  refine⟨rfl,_,rfl,?_⟩
  conv=>whnf
  refine⟨encW true (List.replicate n x ++ []),[(6,some (.arr true true 33 1 [[encW true (List.replicate n x)],[.snil]]))],fun h nx hrd=>?_,?_,?_⟩
  ·have h9:=hrd 6 _ (List.mem_singleton.2 rfl)
   refine pureV_lend [6] (concat_ok false (List.replicate n x) [] .snil (by first|exact .inl rfl|exact .inr ⟨rfl,rfl⟩) (by simp;omega) (by first|omega|(simp;done))) ⟨.less (v1:=pairV true (List.replicate n x) .snil) (LeV.freeze_of (by simp) h9 (by simp) (encW_rows_free (vs:=[encW true (List.replicate n x),.snil]) (by intro v hv;simp at hv;rcases hv with rfl|rfl;exact encW_free _ _;first|exact encW_free _ _|exact .snil)) rfl) (.pair (by first|exact .encW|exact Less.refl _)),trivial⟩ ?_ (one_none h9) (encW_fresh _)
   intro v hv
   simp at hv
   subst hv
   exact pairV_cold (by first|exact .inl rfl|exact .inr ⟨rfl,rfl⟩)
  ·intro b ob hm
   obtain⟨rfl,rfl⟩:b=6∧ob=_:=by simpa using hm
   rfl
  conv=>whnf
  refine⟨rfl,⟨by decide,by simp;try omega⟩,?_⟩
  conv=>whnf
  refine⟨rfl,_,rfl,?_⟩
  conv=>whnf
  refine⟨by kernel_rfl,?_⟩
  conv=>whnf
  have hfz:∀{h:Heap} {nx nx':Nat} {ρ:Nat→Nat} {Z:List Nat} {e2:Bool},4∈Z→hget h 4=some (.arr true e2 91 2 ([.bool false,encW true (List.replicate n x ++ [])] :: List.replicate k' (List.replicate 2 .any)))→LeV h nx ρ nx' Z (.osl 4 2 0 1) (encLegs true (prePath (⟨o,[],nn,hm,m,hq,q,tg⟩:Attrs).path x n)):=fun hz hb=>LeV.freezeE hz hb (by simp) (by simp[prePath,encLeg]) (rowsLegs_free _ _)
  refine callV_lend [4] (path_ok false (prePath (⟨o,[],nn,hm,m,hq,q,tg⟩:Attrs).path x n)) ⟨.less (v1:=encLegs true (prePath (⟨o,[],nn,hm,m,hq,q,tg⟩:Attrs).path x n)) (hfz (by simp) rfl) .legs,trivial⟩ (by intro v hv;simp at hv;subst hv;exact encLegs_cold _) (one_none rfl) .bool ?_
  cases hpo:pathOk (prePath (⟨o,[],nn,hm,m,hq,q,tg⟩:Attrs).path x n)with
  | false=>
   conv=>whnf
   exact long hpo .noA
  | true=>
   conv=>whnf
   exact fin [4] hpo (hfz (by simp) rfl) (by intro z hz;simp only[List.mem_cons,List.not_mem_nil,or_false]at hz;rcases hz with rfl<;>exact ne_none_of rfl)
 ·simp only[List.length_cons]at hpl
  have hns:=hp ⟨st,ns⟩ (by simp)
  simp only at hns
  cases st with
  | true=>
   conv=>whnf
   refine⟨rfl,⟨by simp,by simp;try omega⟩,?_⟩
   conv=>whnf
   refine⟨rfl,_,rfl,?_⟩
   conv=>whnf
   refine callV_open rfl (by decide) (by simp) 0 rfl (by simp) fun k=>?_
   refine callV_frame (nx:=4) (n0:=2) (renOf [(0,2),( 1,3)]) (insertL_ok (List.map (encLeg true) (⟨true,ns⟩ :: r)) [.bool false,.snil] (rowsLegs_free _ _) hrow true (fun _=>rfl) 0 k (by simp;omega) (by simp)) (by repeat' (first|exact True.intro|exact .osl_of rfl (by omega) (by simp)|exact LeB.arrE rfl (openL_free (rowsLegs_free true (⟨true,ns⟩ :: r)) k) id id|exact LeB.arrE rfl (by intro y hy;simp only[List.mem_singleton]at hy;subst hy;exact hrow) id id|exact .A|exact LeL.fr rfl|refine⟨?_,?_⟩)) (LeH.of (by repeat' (first|exact LHa|exact .osl_of rfl (by omega) (by simp)|exact LeB.arrE rfl (openL_free (rowsLegs_free true (⟨true,ns⟩ :: r)) k) id id|exact LeB.arrE rfl (by intro y hy;simp only[List.mem_singleton]at hy;subst hy;exact hrow) id id|exact .A|exact LeL.fr rfl|exact LHb|refine Or.inl ⟨by simp,_,rfl,?_⟩|exact Or.inr ⟨by simp,_,_,_,_,rfl⟩|refine⟨rfl,rfl,rfl,rfl,rfl,rfl,?_⟩|refine⟨?_,?_⟩)) (show ∀b∈([0,1]:List Nat),∀b'∈([0,1]:List Nat),(renOf [(0,2),( 1,3)]) b=(renOf [(0,2),( 1,3)]) b'→b=b' by decide) (fun _ h=>by omega) (by omega) (by simp)) (fun b hb=>by match b,hb with|0,_=>exact ne_none_of rfl|1,_=>exact ne_none_of rfl) (by decide) ?_
   rintro v h' nx' ⟨k',rfl,rfl,rfl⟩ _
   refine⟨.osl 4 2 0 (r.length + 1 + 1),[(4,some (.arr true false 91 2 ([.bool false,.snil] :: List.map (encLeg true) (⟨true,ns⟩ :: r)++ List.replicate k' (List.replicate 2 .any)))),(0,some _),(1,some _)],by rw[List.length_map,List.length_cons];exact Ren.osl rfl,(by repeat' (first|exact True.intro|exact Or.inr ⟨by decide,rfl⟩|exact Or.inl ⟨2,rfl,by omega,_,rfl,RenB.arr (openL_free (insRows_free (i:=0) (rowsLegs_free true (⟨true,ns⟩ :: r)) hrow) k')⟩|refine⟨?_,?_⟩)),?_⟩
   conv=>whnf
   refine⟨encW true (List.replicate n x),[(5,some (.arr true true 22 1 (rowsW [x])))],fun h nx hrd=>?_,?_,?_⟩
   ·have h8:=hrd 5 _ (List.mem_singleton.2 rfl)
    refine pureV_lend [5] (repeat_ok false x n hk) ⟨LeV.fresh_off (LeV.freeze_of (by simp) h8 (by simp) (rowsW_free [x]) rfl),.int_of rfl,trivial⟩ ?_ (one_none h8) (encW_fresh _)
    intro v hv
    simp at hv
    rcases hv with rfl|rfl
    ·exact encW_cold _
    ·exact .int
   ·intro b ob hm
    obtain⟨rfl,rfl⟩:b=5∧ob=_:=by simpa using hm
    rfl
   conv=>whnf
   refine⟨rfl,⟨by decide,by simp;try omega⟩,?_⟩
   conv=>whnf
   refine⟨rfl,_,rfl,?_⟩
   conv=>whnf
   refine⟨encW true (List.replicate n x ++ []),[(6,some (.arr true true 33 1 [[encW true (List.replicate n x)],[.snil]]))],fun h nx hrd=>?_,?_,?_⟩
   ·have h9:=hrd 6 _ (List.mem_singleton.2 rfl)
    refine pureV_lend [6] (concat_ok false (List.replicate n x) [] .snil (by first|exact .inl rfl|exact .inr ⟨rfl,rfl⟩) (by simp;omega) (by first|omega|(simp;done))) ⟨.less (v1:=pairV true (List.replicate n x) .snil) (LeV.freeze_of (by simp) h9 (by simp) (encW_rows_free (vs:=[encW true (List.replicate n x),.snil]) (by intro v hv;simp at hv;rcases hv with rfl|rfl;exact encW_free _ _;first|exact encW_free _ _|exact .snil)) rfl) (.pair (by first|exact .encW|exact Less.refl _)),trivial⟩ ?_ (one_none h9) (encW_fresh _)
    intro v hv
    simp at hv
    subst hv
    exact pairV_cold (by first|exact .inl rfl|exact .inr ⟨rfl,rfl⟩)
   ·intro b ob hm
    obtain⟨rfl,rfl⟩:b=6∧ob=_:=by simpa using hm
    rfl
   conv=>whnf
   refine⟨rfl,⟨by decide,by simp;try omega⟩,?_⟩
   conv=>whnf
   refine⟨rfl,_,rfl,?_⟩
   conv=>whnf
   refine⟨by kernel_rfl,?_⟩
   conv=>whnf
   have hfz:∀{h:Heap} {nx nx':Nat} {ρ:Nat→Nat} {Z:List Nat} {e2:Bool},4∈Z→hget h 4=some (.arr true e2 91 2 ([.bool false,encW true (List.replicate n x ++ [])] :: List.map (encLeg true) (⟨true,ns⟩ :: r)++ List.replicate k' (List.replicate 2 .any)))→LeV h nx ρ nx' Z (.osl 4 2 0 (r.length + 1 + 1)) (encLegs true (prePath (⟨o,(⟨true,ns⟩ :: r),nn,hm,m,hq,q,tg⟩:Attrs).path x n)):=fun hz hb=>LeV.freezeE hz hb (by simp) (by simp[prePath,encLeg]) (rowsLegs_free _ _)
   refine callV_lend [4] (path_ok false (prePath (⟨o,(⟨true,ns⟩ :: r),nn,hm,m,hq,q,tg⟩:Attrs).path x n)) ⟨.less (v1:=encLegs true (prePath (⟨o,(⟨true,ns⟩ :: r),nn,hm,m,hq,q,tg⟩:Attrs).path x n)) (hfz (by simp) rfl) .legs,trivial⟩ (by intro v hv;simp at hv;subst hv;exact encLegs_cold _) (one_none rfl) .bool ?_
   cases hpo:pathOk (prePath (⟨o,(⟨true,ns⟩ :: r),nn,hm,m,hq,q,tg⟩:Attrs).path x n)with
   | false=>
    conv=>whnf
    exact long hpo .noA
   | true=>
    conv=>whnf
    exact fin [4] hpo (hfz (by simp) rfl) (by intro z hz;simp only[List.mem_cons,List.not_mem_nil,or_false]at hz;rcases hz with rfl<;>exact ne_none_of rfl)
  | false=>
   conv=>whnf
   refine⟨rfl,⟨by simp,by simp;try omega⟩,?_⟩
   conv=>whnf
   refine⟨rfl,_,rfl,?_⟩
   conv=>whnf
   refine⟨encW true (List.replicate n x),[(3,some (.arr true true 22 1 (rowsW [x])))],fun h nx hrd=>?_,?_,?_⟩
   ·have h8:=hrd 3 _ (List.mem_singleton.2 rfl)
    refine pureV_lend [3] (repeat_ok false x n hk) ⟨LeV.fresh_off (LeV.freeze_of (by simp) h8 (by simp) (rowsW_free [x]) rfl),.int_of rfl,trivial⟩ ?_ (one_none h8) (encW_fresh _)
    intro v hv
    simp at hv
    rcases hv with rfl|rfl
    ·exact encW_cold _
    ·exact .int
   ·intro b ob hm
    obtain⟨rfl,rfl⟩:b=3∧ob=_:=by simpa using hm
    rfl
   conv=>whnf
   refine⟨rfl,⟨by decide,by simp;try omega⟩,?_⟩
   conv=>whnf
   refine⟨rfl,_,rfl,?_⟩
   conv=>whnf
   refine⟨encW true (List.replicate n x ++ ns),[(4,some (.arr true true 33 1 [[encW true (List.replicate n x)],[(encW true ns)]]))],fun h nx hrd=>?_,?_,?_⟩
   ·have h9:=hrd 4 _ (List.mem_singleton.2 rfl)
    refine pureV_lend [4] (concat_ok false (List.replicate n x) ns (encW false ns) (by first|exact .inl rfl|exact .inr ⟨rfl,rfl⟩) (by simp;omega) (by first|omega|(simp;done))) ⟨.less (v1:=pairV true (List.replicate n x) (encW true ns)) (LeV.freeze_of (by simp) h9 (by simp) (encW_rows_free (vs:=[encW true (List.replicate n x),(encW true ns)]) (by intro v hv;simp at hv;rcases hv with rfl|rfl;exact encW_free _ _;first|exact encW_free _ _|exact .snil)) rfl) (.pair (by first|exact .encW|exact Less.refl _)),trivial⟩ ?_ (one_none h9) (encW_fresh _)
    intro v hv
    simp at hv
    subst hv
    exact pairV_cold (by first|exact .inl rfl|exact .inr ⟨rfl,rfl⟩)
   ·intro b ob hm
    obtain⟨rfl,rfl⟩:b=4∧ob=_:=by simpa using hm
    rfl
   conv=>whnf
   refine⟨rfl,⟨by decide,by simp;try omega⟩,?_⟩
   conv=>whnf
   refine⟨rfl,_,rfl,?_⟩
   conv=>whnf
   refine⟨by kernel_rfl,?_⟩
   conv=>whnf
   have hfz:∀{h:Heap} {nx nx':Nat} {ρ:Nat→Nat} {Z:List Nat} {e2:Bool},2∈Z→hget h 2=some (.arr true e2 91 2 ([.bool false,encW true (List.replicate n x ++ ns)] :: List.map (encLeg true) r))→LeV h nx ρ nx' Z (.osl 2 2 0 (r.length + 1)) (encLegs true (prePath (⟨o,(⟨false,ns⟩ :: r),nn,hm,m,hq,q,tg⟩:Attrs).path x n)):=fun hz hb=>LeV.freezeE hz hb (by simp) (by simp[prePath,encLeg];exact List.take_of_length_le (by simp)) (rowsLegs_free _ _)
   refine callV_lend [2] (path_ok false (prePath (⟨o,(⟨false,ns⟩ :: r),nn,hm,m,hq,q,tg⟩:Attrs).path x n)) ⟨.less (v1:=encLegs true (prePath (⟨o,(⟨false,ns⟩ :: r),nn,hm,m,hq,q,tg⟩:Attrs).path x n)) (hfz (by simp) rfl) .legs,trivial⟩ (by intro v hv;simp at hv;subst hv;exact encLegs_cold _) (one_none rfl) .bool ?_
   cases hpo:pathOk (prePath (⟨o,(⟨false,ns⟩ :: r),nn,hm,m,hq,q,tg⟩:Attrs).path x n)with
   | false=>
    conv=>whnf
    exact long hpo .noA
   | true=>
    conv=>whnf
    exact fin [2] hpo (hfz (by simp) rfl) (by intro z hz;simp only[List.mem_cons,List.not_mem_nil,or_false]at hz;rcases hz with rfl<;>exact ne_none_of rfl)
end
theorem rightA_parts {a:Attrs} (h:rightA a=true):a.origin.toNat≤2∧pathOk a.path=true∧a.next ≠ 0∧(a.hasMed=false→a.med=0)∧(a.hasPref=false→a.pref=0)∧a.tags.length≤16∧rises a.tags=true:=by
 simp only[rightA,Bool.and_eq_true,decide_eq_true_eq,Bool.or_eq_true,bne_iff_ne,ne_eq,beq_iff_eq]at h
 obtain⟨⟨⟨⟨⟨⟨h1,h2⟩,h3⟩,h4⟩,h5⟩,h6⟩,h7⟩:=h
 refine⟨by omega,h2,h3,fun e=>?_,fun e=>?_,by omega,h7⟩
 ·rcases h4 with h|h
  ·rw[e]at h;cases h
  ·exact h
 ·rcases h5 with h|h
  ·rw[e]at h;cases h
  ·exact h
theorem rightA_of {a:Attrs} (h1:a.origin.toNat≤2) (h2:pathOk a.path=true) (h3:a.next ≠ 0) (h4:a.hasMed=false→a.med=0) (h5:a.hasPref=false→a.pref=0) (h6:a.tags.length≤16) (h7:rises a.tags=true):rightA a=true:=by
 simp only[rightA,Bool.and_eq_true,decide_eq_true_eq,Bool.or_eq_true,bne_iff_ne,ne_eq,beq_iff_eq]
 refine⟨⟨⟨⟨⟨⟨by omega,h2⟩,h3⟩,?_⟩,?_⟩,by omega⟩,h7⟩
 ·cases e:a.hasMed with
  | true=>exact .inl rfl
  | false=>exact .inr (h4 e)
 ·cases e:a.hasPref with
  | true=>exact .inl rfl
  | false=>exact .inr (h5 e)
theorem rightA_path {a:Attrs} {l:List Leg} (h:rightA a=true) (hp:pathOk l=true):rightA { a with path:=l }=true:=by
 obtain⟨h1,_,h3,h4,h5,h6,h7⟩:=rightA_parts h
 exact rightA_of h1 hp h3 h4 h5 h6 h7
theorem lengthOf_cons (p:Leg) (l:List Leg):lengthOf (p :: l)=lenOf p + lengthOf l:=by simp[lengthOf]
theorem prePath_len {l:List Leg} {x:UInt32} {n:Nat}:lengthOf (prePath l x n)=lengthOf l + n:=by
 unfold prePath
 split
 ·rename_i ns r
  rw[lengthOf_cons,lengthOf_cons]
  simp[lenOf];omega
 ·rw[lengthOf_cons]
  simp[lenOf];omega
theorem prePath_first {l:List Leg} {x:UInt32} {n:Nat} (hn:0 < n):hasA (prePath l x n) x=true∧∃ns r,prePath l x n=⟨false,x :: ns⟩ :: r:=by
 obtain⟨m,rfl⟩:∃m,n=m + 1:=⟨n - 1,by omega⟩
 unfold prePath
 split
 ·rename_i ns r
  exact⟨by simp[hasA,hasN,List.replicate_succ],_,_,by rw[List.replicate_succ];rfl⟩
 ·exact⟨by simp[hasA,hasN,List.replicate_succ],_,_,by rw[List.replicate_succ]⟩
theorem prep_fine {a:Attrs} {x:UInt32} {n:Int} (he:prepE a x n=0):rightA a=true∧0≤n∧n≤8∧rightA (prepA a x n)=true∧lengthOf (prepA a x n).path=lengthOf a.path + n.toNat∧(0 < n→firstOf (prepA a x n)=x∧hasA (prepA a x n).path x=true)∧{ prepA a x n with path:=a.path }=a:=by
 cases hb:badPre a x n with
 | true=>simp[prepE,hb]at he
 | false=>
  obtain⟨h,_,h0,h8⟩:=badPre_no hb
  by_cases hz:n=0
  ·subst hz
   have:prepA a x 0=a:=by simp[prepA,he]
   rw[this]
   exact⟨h,h0,h8,h,by simp,fun h=>absurd h (by omega),rfl⟩
  ·have hp:pathOk (prePath a.path x n.toNat)=true:=by
    simp only[prepE,hb,hz,if_false,Bool.false_eq_true]at he
    split at he
    ·assumption
    ·cases he
   have e:prepA a x n={ a with path:=prePath a.path x n.toNat }:=by simp[prepA,he,hz]
   rw[e]
   refine⟨h,h0,h8,rightA_path h hp,prePath_len,fun hn=>?_,rfl⟩
   obtain⟨h1,ns,r,h2⟩:=prePath_first (l:=a.path) (x:=x) (n:=n.toNat) (by omega)
   refine⟨?_,h1⟩
   show firstOf { a with path:=prePath a.path x n.toNat }=x
   rw[h2];rfl
section
open Go.Proofs.Tryz (prog)
attribute [local irreducible] CallV RoundV
theorem hasN_take_succ {l:List UInt32} (t:UInt32) {k:Nat} (hk:k < l.length):hasN (l.take (k + 1)) t=(hasN (l.take k) t || l[k] == t):=by
 unfold hasN
 rw[List.take_succ_eq_append_getElem hk,List.any_append]
 simp
end
section
open Go.ChangeShapes Go.WideShapes
open Go.Proofs.Tryz (prog)
theorem rep_words:RepOk prog 33 (fun l:List UInt32=>[encW false l]):=
 rep_slice (cells:=fun x:UInt32=>[.int .u32 x.toNat]) Go.Proofs.Tryz.underlying33 (by kernel_rfl) (by decide) (fun _=>rfl) (rep_u32 Go.Proofs.Tryz.underlying22)
theorem vrs_join {G:Gh} {w:World} {vs:List V} {us:List Value} {v:V} {k n:Nat} (h:vrs G w vs (us.take n)) (hv:vrs G w [v] ((us.drop k).take 1)) (hk:k=n) (hn:n < us.length):vrs G w (vs ++ [v]) (us.take (n + 1)):=by
 subst hk
 rw[List.take_succ_eq_append_getElem hn]
 refine h.append ?_
 rw[List.drop_eq_getElem_cons hn,List.take_succ_cons,List.take_zero]at hv
 exact hv
theorem one_join {us:List Value} {k n:Nat} (h:∀u∈us.take n,u.oneCell'=true) (hv:∀u∈(us.drop k).take 1,u.oneCell'=true) (hk:k=n) (hn:n < us.length):∀u∈us.take (n + 1),u.oneCell'=true:=by
 subst hk
 rw[List.take_succ_eq_append_getElem hn]
 intro u hu
 rcases List.mem_append.1 hu with hu|hu
 ·exact h u hu
 ·refine hv u ?_
  rw[List.drop_eq_getElem_cons hn,List.take_succ_cons,List.take_zero]
  exact hu
theorem vrs_take0 {G:Gh} {w:World} {us:List Value}:vrs G w [] (us.take 0):=by simp[vrs]
theorem field_at {H:Type} {enc:TypeId × Value→H} {w:World} {sp:Nat→Bool} {t:TypeId} {fs:Array Field} {fuel:Nat} {cs:List Value} {x:DataW H × List MemPlace} (ht:prog.underlying t=some (.struct fs)) (h:DataW.trod enc prog w 0 sp true fuel t cs=some x)
  (i:Nat) {f:Field} (hf:fs[i]? = some f) {α:Type} {cells:α→List V} (he:RepOk prog f.type cells) (ho:f.offset=i) (hz:prog.cellsOf f.type=1):∃a,vrs (G0 w) w (cells a) ((cs.drop i).take 1)∧∀u∈(cs.drop i).take 1,u.oneCell'=true:=by
 have:=field_of ht h hf he
 rw[ho,hz]at this
 exact this
theorem rep_leg:RepOk prog 91 (encLeg false):=fun enc w sp fuel cs x h=>by
 have ht:=Go.Proofs.Tryz.underlying91
 obtain⟨xs,n,_,_,hlen,_,_⟩:=DataW.trod_struct ht h
 have hl:cs.length=2:=hlen.trans (by kernel_rfl)
 obtain⟨b,h0,o0⟩:=field_at ht h 0 rfl (rep_bool Go.Proofs.Tryz.underlying4) rfl (by kernel_rfl)
 obtain⟨l,h1,o1⟩:=field_at ht h 1 rfl rep_words rfl (by kernel_rfl)
 have j1:=vrs_join (vrs_join vrs_take0 h0 rfl (by omega)) h1 rfl (by omega)
 have k1:=one_join (one_join (by simp) o0 rfl (by omega)) o1 rfl (by omega)
 rw[List.take_of_length_le (by omega)]at j1 k1
 exact⟨⟨b,l⟩,j1,k1⟩
theorem rep_legs:RepOk prog 32 (fun l:List Leg=>[encLegs false l]):=
 rep_slice (cells:=encLeg false) Go.Proofs.Tryz.underlying32 (by kernel_rfl) (by decide) (fun _=>rfl) rep_leg
theorem rep_attrs:RepOk prog 35 (cellsA false):=fun enc w sp fuel cs x h=>by
 have ht:=Go.Proofs.Tryz.underlying35
 obtain⟨xs,n,_,_,hlen,_,_⟩:=DataW.trod_struct ht h
 have hl:cs.length=8:=hlen.trans (by kernel_rfl)
 obtain⟨a0,h0,o0⟩:=field_at ht h 0 rfl (rep_u8 Go.Proofs.Tryz.underlying5) rfl (by kernel_rfl)
 obtain⟨a1,h1,o1⟩:=field_at ht h 1 rfl rep_legs rfl (by kernel_rfl)
 obtain⟨a2,h2,o2⟩:=field_at ht h 2 rfl (rep_u32 Go.Proofs.Tryz.underlying22) rfl (by kernel_rfl)
 obtain⟨a3,h3,o3⟩:=field_at ht h 3 rfl (rep_bool Go.Proofs.Tryz.underlying4) rfl (by kernel_rfl)
 obtain⟨a4,h4,o4⟩:=field_at ht h 4 rfl (rep_u32 Go.Proofs.Tryz.underlying22) rfl (by kernel_rfl)
 obtain⟨a5,h5,o5⟩:=field_at ht h 5 rfl (rep_bool Go.Proofs.Tryz.underlying4) rfl (by kernel_rfl)
 obtain⟨a6,h6,o6⟩:=field_at ht h 6 rfl (rep_u32 Go.Proofs.Tryz.underlying22) rfl (by kernel_rfl)
 obtain⟨a7,h7,o7⟩:=field_at ht h 7 rfl rep_words rfl (by kernel_rfl)
 have j:=vrs_join (vrs_join (vrs_join (vrs_join (vrs_join (vrs_join (vrs_join (vrs_join vrs_take0 h0 rfl (by omega)) h1 rfl (by omega)) h2 rfl (by omega)) h3 rfl (by omega)) h4 rfl (by omega)) h5 rfl (by omega)) h6 rfl (by omega)) h7 rfl (by omega)
 have k:=one_join (one_join (one_join (one_join (one_join (one_join (one_join (one_join (by simp) o0 rfl (by omega)) o1 rfl (by omega)) o2 rfl (by omega)) o3 rfl (by omega)) o4 rfl (by omega)) o5 rfl (by omega)) o6 rfl (by omega)) o7 rfl (by omega)
 rw[List.take_of_length_le (by omega)]at j k
 exact⟨⟨a0,a1,a2,a3,a4,a5,a6,a7⟩,j,k⟩
theorem arg_i64:ArgOk prog 3 (fun n:I64=>.int .i64 n.1):=arg_int Go.Proofs.Tryz.underlying3 (rep_i64 Go.Proofs.Tryz.underlying3)
theorem laidOut:laidOutB prog=true:=by kernel_rfl
theorem own:ownKnob prog.godebug=none:=by kernel_rfl
end
section
open Go.Proofs.Tryz (prog)
structure Prefix where
 addr:UInt32
 len:UInt8
deriving DecidableEq
structure Rule where
 cover:Prefix
 least:UInt8
 most:UInt8
 hasTag:Bool
 tag:UInt32
 sys:UInt32
 deny:Bool
 hasPref:Bool
 hasMed:Bool
 hasAdd:Bool
 pref:UInt32
 med:UInt32
 add:UInt32
 times:UInt8
deriving DecidableEq
structure Policy where
 rules:List Rule
 els:Bool
deriving DecidableEq
def cellsP (p:Prefix):List V:=[cW p.addr,cB p.len]
def encP (p:Prefix):V:=.agg (cellsP p)
def cellsRu (r:Rule):List V:=[cW r.cover.addr,cB r.cover.len,cB r.least,cB r.most,.bool r.hasTag,cW r.tag,cW r.sys,.bool r.deny,.bool r.hasPref,.bool r.hasMed,.bool r.hasAdd,cW r.pref,cW r.med,cW r.add,cB r.times]
def encRu (r:Rule):V:=.agg (cellsRu r)
abbrev rowsRu (l:List Rule):List (List V):=l.map cellsRu
def encRus (fr:Bool) (l:List Rule):V:=.sl fr 15 (rowsRu l)
def cellsPo (fr:Bool) (p:Policy):List V:=[encRus fr p.rules,.bool p.els]
def encPo (fr:Bool) (p:Policy):V:=.agg (cellsPo fr p)
theorem cellsP_free (p:Prefix):∀v∈cellsP p,Free v:=by
 intro v hv
 simp only[cellsP,List.mem_cons,List.not_mem_nil,or_false]at hv
 rcases hv with rfl|rfl<;>exact .int
theorem encP_free (p:Prefix):Free (encP p):=.agg (cellsP_free p)
theorem encP_cold (p:Prefix):Cold (encP p):=.agg (by
 intro v hv
 simp only[cellsP,List.mem_cons,List.not_mem_nil,or_false]at hv
 rcases hv with rfl|rfl<;>exact .int)
theorem cellsRu_all (r:Rule):∀v∈cellsRu r,Free v∧Cold v∧Fresh v:=by
 intro v hv
 simp only[cellsRu,List.mem_cons,List.not_mem_nil,or_false]at hv
 rcases hv with rfl|rfl|rfl|rfl|rfl|rfl|rfl|rfl|rfl|rfl|rfl|rfl|rfl|rfl|rfl<;>first|exact⟨.int,.int,.int⟩|exact⟨.bool,.bool,.bool⟩
theorem cellsRu_free (r:Rule):∀v∈cellsRu r,Free v:=fun v hv=>(cellsRu_all r v hv).1
theorem encRu_free (r:Rule):Free (encRu r):=.agg (cellsRu_free r)
theorem rowsRu_all (l:List Rule):∀x∈rowsRu l,∀v∈x,Free v∧Cold v∧Fresh v:=by
 intro x hx v hv
 obtain⟨r,_,rfl⟩:=List.mem_map.1 hx
 exact cellsRu_all r v hv
theorem rowsRu_free (l:List Rule):∀x∈rowsRu l,∀v∈x,Free v:=fun x hx v hv=>(rowsRu_all l x hx v hv).1
theorem encRus_free (fr:Bool) (l:List Rule):Free (encRus fr l):=.sl (rowsRu_free l)
theorem encRus_cold (l:List Rule):Cold (encRus false l):=.sl fun x hx v hv=>(rowsRu_all l x hx v hv).2.1
theorem cellsPo_free (fr:Bool) (p:Policy):∀v∈cellsPo fr p,Free v:=by
 intro v hv
 simp only[cellsPo,List.mem_cons,List.not_mem_nil,or_false]at hv
 rcases hv with rfl|rfl
 ·exact encRus_free _ _
 ·exact .bool
theorem encPo_free (fr:Bool) (p:Policy):Free (encPo fr p):=.agg (cellsPo_free fr p)
instance {p}:FreeLI (cellsP p):=⟨⟨cellsP_free p⟩⟩
instance {p}:FreeI (encP p):=⟨⟨encP_free p⟩⟩
instance {r}:FreeLI (cellsRu r):=⟨⟨cellsRu_free r⟩⟩
instance {r}:FreeI (encRu r):=⟨⟨encRu_free r⟩⟩
instance {l:List Rule}:FreeRI (l.map cellsRu):=⟨⟨rowsRu_free l⟩⟩
instance {fr l}:FreeI (encRus fr l):=⟨⟨encRus_free fr l⟩⟩
instance {fr p}:FreeLI (cellsPo fr p):=⟨⟨cellsPo_free fr p⟩⟩
instance {fr p}:FreeI (encPo fr p):=⟨⟨encPo_free fr p⟩⟩
theorem idxRu {l:List Rule} {i:Nat} (h:i < l.length):(l.map cellsRu)[(i:Int).toNat]? = some (cellsRu l[i]):=by simp[h]
def hostN (p:Prefix):Nat:=32 - p.len.toNat
def prefOk (p:Prefix):Bool:=decide ((p.len.toNat:Int)≤32)&& decide (p.addr.toNat % 2 ^ hostN p=0)
def coversP (p q:Prefix):Bool:=prefOk p && prefOk q && decide ((p.len.toNat:Int)≤(q.len.toNat:Int))&& decide (q.addr.toNat / 2 ^ hostN p=p.addr.toNat / 2 ^ hostN p)
def maskN (k:Nat):Nat:=2 ^ 32 - 2 ^ k
theorem mask_shift {k:Nat} (h:k≤32):maskN k=(2 ^ (32 - k) - 1) <<< k:=by
 rw[maskN,Nat.shiftLeft_eq,Nat.sub_mul,← Nat.pow_add,Nat.one_mul]
 congr 2
 omega
theorem and_mask {x k:Nat} (hx:x < 2 ^ 32) (h:k≤32):x &&& maskN k=x / 2 ^ k * 2 ^ k:=by
 rw[mask_shift h,← Nat.shiftLeft_eq,← Nat.shiftRight_eq_div_pow]
 apply Nat.eq_of_testBit_eq
 intro i
 simp only[Nat.testBit_and,Nat.testBit_shiftLeft,Nat.testBit_two_pow_sub_one,Nat.testBit_shiftRight]
 by_cases hk:k≤i
 ·rw[show k + (i - k)=i by omega]
  by_cases hi:i < 32
  ·simp[hk,show i - k < 32 - k by omega]
  ·have:x.testBit i=false:=Nat.testBit_lt_two_pow (Nat.lt_of_lt_of_le hx (Nat.pow_le_pow_right (by decide) (by omega)))
   simp[this]
 ·simp[hk]
theorem mask_lt (k:Nat):maskN k < 2 ^ 32:=Nat.sub_lt (by decide) (Nat.two_pow_pos k)
theorem bits_and_mask (x:UInt32) {k:Nat} (h:k≤32):bits .and .u32 (x.toNat:Int) ((maskN k:Nat):Int)=((x.toNat / 2 ^ k * 2 ^ k:Nat):Int):=by
 rw[(bits_nat .u32 32 (by decide) (fun n h0 h1=>by rw[wrap32];omega) x.toNat (maskN k) x.toNat_lt (mask_lt k)).1,and_mask x.toNat_lt h]
theorem bits_andNot_mask (x:UInt32) {k:Nat} (h:k≤32):bits .andNot .u32 (x.toNat:Int) ((maskN k:Nat):Int)=((x.toNat % 2 ^ k:Nat):Int):=by
 have hx:x.toNat % 2 ^ IntKind.u32.bits=x.toNat:=Nat.mod_eq_of_lt x.toNat_lt
 have hm:maskN k % 2 ^ IntKind.u32.bits=maskN k:=Nat.mod_eq_of_lt (mask_lt k)
 have hk:2 ^ k≤2 ^ 32:=Nat.pow_le_pow_right (by decide) h
 have hn:2 ^ IntKind.u32.bits - 1 - maskN k=2 ^ k - 1:=by
  have:2 ^ IntKind.u32.bits=2 ^ 32:=rfl
  have hp:=Nat.two_pow_pos k
  rw[this,maskN];omega
 have hlt:x.toNat % 2 ^ k≤x.toNat:=Nat.mod_le _ _
 have hx2:=x.toNat_lt
 simp only[bits,BitVec.ofInt_natCast,BitVec.toNat_and,BitVec.toNat_not,BitVec.toNat_ofNat,hx,hm,hn]
 rw[Nat.and_two_pow_sub_one_eq_mod,wrap32]
 omega
theorem host_le (p:Prefix):hostN p≤32:=by unfold hostN;omega
end
section
open Go.ChangeShapes Go.WideShapes
open Go.Proofs.Tryz (prog)
theorem rep_prefix:RepOk prog 31 cellsP:=fun enc w sp fuel cs x h=>by
 have ht:=Go.Proofs.Tryz.underlying31
 obtain⟨xs,n,_,_,hlen,_,_⟩:=DataW.trod_struct ht h
 have hl:cs.length=2:=hlen.trans (by kernel_rfl)
 obtain⟨b,h0,o0⟩:=field_at ht h 0 rfl (rep_u32 Go.Proofs.Tryz.underlying22) rfl (by kernel_rfl)
 obtain⟨l,h1,o1⟩:=field_at ht h 1 rfl (rep_u8 Go.Proofs.Tryz.underlying5) rfl (by kernel_rfl)
 have j1:=vrs_join (vrs_join vrs_take0 h0 rfl (by omega)) h1 rfl (by omega)
 have k1:=one_join (one_join (by simp) o0 rfl (by omega)) o1 rfl (by omega)
 rw[List.take_of_length_le (by omega)]at j1 k1
 exact⟨⟨b,l⟩,j1,k1⟩
theorem field_on {H:Type} {enc:TypeId × Value→H} {w:World} {sp:Nat→Bool} {t:TypeId} {fs:Array Field} {fuel:Nat} {cs:List Value} {x:DataW H × List MemPlace} (ht:prog.underlying t=some (.struct fs)) (h:DataW.trod enc prog w 0 sp true fuel t cs=some x)
  (i o:Nat) {f:Field} (hf:fs[i]? = some f) {α:Type} {cells:α→List V} (he:RepOk prog f.type cells) (ho:f.offset=o) (hz:prog.cellsOf f.type=1):∃a,vrs (G0 w) w (cells a) ((cs.drop o).take 1)∧∀u∈(cs.drop o).take 1,u.oneCell'=true:=by
 have:=field_of ht h hf he
 rw[ho,hz]at this
 exact this
theorem rep_rule:RepOk prog 132 cellsRu:=fun enc w sp fuel cs x h=>by
 have ht:=Go.Proofs.Tryz.underlying132
 obtain⟨xs,n,_,_,hlen,_,_⟩:=DataW.trod_struct ht h
 have hl:cs.length=15:=hlen.trans (by kernel_rfl)
 obtain⟨c,h0,o0⟩:=field_of ht h (f:=_) (i:=0) rfl rep_prefix
 have hz:prog.cellsOf 31=2:=by kernel_rfl
 change vrs (G0 w) w (cellsP c) ((cs.drop 0).take (prog.cellsOf 31))at h0
 change ∀u∈(cs.drop 0).take (prog.cellsOf 31),u.oneCell'=true at o0
 rw[hz,List.drop_zero]at h0 o0
 obtain⟨a1,h1,o1⟩:=field_on ht h 1 2 rfl (rep_u8 Go.Proofs.Tryz.underlying5) rfl (by kernel_rfl)
 obtain⟨a2,h2,o2⟩:=field_on ht h 2 3 rfl (rep_u8 Go.Proofs.Tryz.underlying5) rfl (by kernel_rfl)
 obtain⟨a3,h3,o3⟩:=field_on ht h 3 4 rfl (rep_bool Go.Proofs.Tryz.underlying4) rfl (by kernel_rfl)
 obtain⟨a4,h4,o4⟩:=field_on ht h 4 5 rfl (rep_u32 Go.Proofs.Tryz.underlying22) rfl (by kernel_rfl)
 obtain⟨a5,h5,o5⟩:=field_on ht h 5 6 rfl (rep_u32 Go.Proofs.Tryz.underlying22) rfl (by kernel_rfl)
 obtain⟨a6,h6,o6⟩:=field_on ht h 6 7 rfl (rep_bool Go.Proofs.Tryz.underlying4) rfl (by kernel_rfl)
 obtain⟨a7,h7,o7⟩:=field_on ht h 7 8 rfl (rep_bool Go.Proofs.Tryz.underlying4) rfl (by kernel_rfl)
 obtain⟨a8,h8,o8⟩:=field_on ht h 8 9 rfl (rep_bool Go.Proofs.Tryz.underlying4) rfl (by kernel_rfl)
 obtain⟨a9,h9,o9⟩:=field_on ht h 9 10 rfl (rep_bool Go.Proofs.Tryz.underlying4) rfl (by kernel_rfl)
 obtain⟨a10,h10,o10⟩:=field_on ht h 10 11 rfl (rep_u32 Go.Proofs.Tryz.underlying22) rfl (by kernel_rfl)
 obtain⟨a11,h11,o11⟩:=field_on ht h 11 12 rfl (rep_u32 Go.Proofs.Tryz.underlying22) rfl (by kernel_rfl)
 obtain⟨a12,h12,o12⟩:=field_on ht h 12 13 rfl (rep_u32 Go.Proofs.Tryz.underlying22) rfl (by kernel_rfl)
 obtain⟨a13,h13,o13⟩:=field_on ht h 13 14 rfl (rep_u8 Go.Proofs.Tryz.underlying5) rfl (by kernel_rfl)
 have j2:=vrs_join h0 h1 rfl (by omega)
 have j3:=vrs_join j2 h2 rfl (by omega)
 have j4:=vrs_join j3 h3 rfl (by omega)
 have j5:=vrs_join j4 h4 rfl (by omega)
 have j6:=vrs_join j5 h5 rfl (by omega)
 have j7:=vrs_join j6 h6 rfl (by omega)
 have j8:=vrs_join j7 h7 rfl (by omega)
 have j9:=vrs_join j8 h8 rfl (by omega)
 have j10:=vrs_join j9 h9 rfl (by omega)
 have j11:=vrs_join j10 h10 rfl (by omega)
 have j12:=vrs_join j11 h11 rfl (by omega)
 have j13:=vrs_join j12 h12 rfl (by omega)
 have j14:=vrs_join j13 h13 rfl (by omega)
 have k2:=one_join o0 o1 rfl (by omega)
 have k3:=one_join k2 o2 rfl (by omega)
 have k4:=one_join k3 o3 rfl (by omega)
 have k5:=one_join k4 o4 rfl (by omega)
 have k6:=one_join k5 o5 rfl (by omega)
 have k7:=one_join k6 o6 rfl (by omega)
 have k8:=one_join k7 o7 rfl (by omega)
 have k9:=one_join k8 o8 rfl (by omega)
 have k10:=one_join k9 o9 rfl (by omega)
 have k11:=one_join k10 o10 rfl (by omega)
 have k12:=one_join k11 o11 rfl (by omega)
 have k13:=one_join k12 o12 rfl (by omega)
 have k14:=one_join k13 o13 rfl (by omega)
 rw[List.take_of_length_le (by omega)]at j14 k14
 exact⟨⟨c,a1,a2,a3,a4,a5,a6,a7,a8,a9,a10,a11,a12,a13⟩,j14,k14⟩
theorem rep_rules:RepOk prog 27 (fun l:List Rule=>[encRus false l]):=
 rep_slice (cells:=cellsRu) Go.Proofs.Tryz.underlying27 (by kernel_rfl) (by decide) (fun _=>rfl) rep_rule
theorem rep_policy:RepOk prog 29 (cellsPo false):=fun enc w sp fuel cs x h=>by
 have ht:=Go.Proofs.Tryz.underlying29
 obtain⟨xs,n,_,_,hlen,_,_⟩:=DataW.trod_struct ht h
 have hl:cs.length=2:=hlen.trans (by kernel_rfl)
 obtain⟨b,h0,o0⟩:=field_at ht h 0 rfl rep_rules rfl (by kernel_rfl)
 obtain⟨l,h1,o1⟩:=field_at ht h 1 rfl (rep_bool Go.Proofs.Tryz.underlying4) rfl (by kernel_rfl)
 have j1:=vrs_join (vrs_join vrs_take0 h0 rfl (by omega)) h1 rfl (by omega)
 have k1:=one_join (one_join (by simp) o0 rfl (by omega)) o1 rfl (by omega)
 rw[List.take_of_length_le (by omega)]at j1 k1
 exact⟨⟨b,l⟩,j1,k1⟩
theorem arg_policy:ArgOk prog 29 (encPo false):=arg_struct Go.Proofs.Tryz.underlying29 rep_policy
theorem read_policy:prog.readableRec 29=true∧29 < prog.types.size:=⟨by kernel_rfl,of_decide_eq_true (by kernel_rfl)⟩
theorem read_int:prog.readableRec 3=true∧3 < prog.types.size:=⟨by kernel_rfl,of_decide_eq_true (by kernel_rfl)⟩
end
section
open Go.Proofs.Tryz (prog)
attribute [local irreducible] CallV RoundV
theorem mask_val {n:Nat} (h:n < 256):IntKind.u32.wrap (IntKind.u64.wrap (4294967296 - IntKind.u64.wrap (1 * 2 ^ (min (IntKind.u8.wrap (32 - (if(32:Int) < n then 32 else(n:Int)))).toNat IntKind.u64.bits))))=((maskN (32 - n):Nat):Int):=by
 have key:∀m:Nat,m≤32→IntKind.u32.wrap (IntKind.u64.wrap (4294967296 - IntKind.u64.wrap (1 * 2 ^ (min (IntKind.u8.wrap (32 - (m:Int))).toNat IntKind.u64.bits))))=((maskN (32 - m):Nat):Int):=by
  intro m hm
  have hm':m=0∨m=1∨m=2∨m=3∨m=4∨m=5∨m=6∨m=7∨m=8∨m=9∨m=10∨m=11∨m=12∨m=13∨m=14∨m=15∨m=16∨m=17∨m=18∨m=19∨m=20∨m=21∨m=22∨m=23∨m=24∨m=25∨m=26∨m=27∨m=28∨m=29∨m=30∨m=31∨m=32:=by omega
  rcases hm' with rfl|rfl|rfl|rfl|rfl|rfl|rfl|rfl|rfl|rfl|rfl|rfl|rfl|rfl|rfl|rfl|rfl|rfl|rfl|rfl|rfl|rfl|rfl|rfl|rfl|rfl|rfl|rfl|rfl|rfl|rfl|rfl|rfl<;>decide
 split
 ·rename_i hn
  have hn:32 < n:=by omega
  rw[show 32 - n=32 - 32 by omega]
  exact key 32 (Nat.le_refl _)
 ·exact key n (by omega)
theorem mask_ok (x:UInt8):PCon prog 140 [cB x] (.int .u32 (maskN (32 - x.toNat):Nat)):=by
 refine callV_of (fn:=Go.Proofs.Tryz.f140) (body:=_) tab_ok mixed rfl rfl (by decide) (by simp[Go.Proofs.Tryz.f140]) ?_
 conv=>whnf
 refine⟨by rw[wrap8];omega,?_⟩
 conv=>whnf
 exact(Ends.pure [] (by repeat' (first|exact True.intro|exact .int_of (mask_val x.toNat_lt)|exact .A|exact LeL.fr rfl|exact LeV.nineA|exact LeV.noA|refine .tupL ?_|refine .aggL ?_|refine⟨?_,?_⟩)) (by simp))
theorem uRight_ok (p:Prefix):PCon prog 90 [encP p] (.bool (prefOk p)):=by
 refine callV_of (fn:=Go.Proofs.Tryz.f90) (body:=_) tab_ok mixed rfl rfl (by decide) (by simp[Go.Proofs.Tryz.f90]) ?_
 conv=>whnf
 cases h:decide ((p.len.toNat:Int)≤32)with
 | false=>
  conv=>whnf
  refine⟨by kernel_rfl,?_⟩
  conv=>whnf
  exact(Ends.pure [] (by repeat' (first|exact True.intro|exact .bool_of (by simp[prefOk,h])|exact .A|exact LeL.fr rfl|exact LeV.nineA|exact LeV.noA|refine .tupL ?_|refine .aggL ?_|refine⟨?_,?_⟩)) (by simp))
 | true=>
  conv=>whnf
  refine⟨_,[],fun h nx _=>pureV_pure (mask_ok p.len) ⟨.free .int,trivial⟩,by simp,?_⟩
  conv=>whnf
  refine⟨by kernel_rfl,?_⟩
  conv=>whnf
  refine(Ends.pure [] (by repeat' (first|exact True.intro|exact .bool_of (by rw[prefOk,h,show 32 - p.len.toNat=hostN p from rfl,bits_andNot_mask _ (host_le p),Bool.true_and];rw[Bool.eq_iff_iff];simp only[beq_iff_eq,decide_eq_true_eq];omega)|exact .A|exact LeL.fr rfl|exact LeV.nineA|exact LeV.noA|refine .tupL ?_|refine .aggL ?_|refine⟨?_,?_⟩)) (by simp))
theorem cover_eq {p q:Prefix} (h:prefOk p=true):decide (q.addr.toNat / 2 ^ hostN p=p.addr.toNat / 2 ^ hostN p)=(((q.addr.toNat / 2 ^ hostN p * 2 ^ hostN p:Nat):Int) == (p.addr.toNat:Int)):=by
 simp only[prefOk,Bool.and_eq_true,decide_eq_true_eq]at h
 have hd:=Nat.div_add_mod p.addr.toNat (2 ^ hostN p)
 rw[h.2,Nat.add_zero,Nat.mul_comm]at hd
 rw[Bool.eq_iff_iff]
 simp only[decide_eq_true_eq,beq_iff_eq]
 constructor
 ·intro e;rw[e,hd]
 ·intro e
  have e:q.addr.toNat / 2 ^ hostN p * 2 ^ hostN p=p.addr.toNat:=by omega
  rw[← hd]at e
  exact Nat.mul_right_cancel (Nat.two_pow_pos _) e
theorem uCovers_ok (p q:Prefix):PCon prog 248 [encP p,encP q] (.bool (coversP p q)):=by
 refine callV_of (fn:=Go.Proofs.Tryz.f248) (body:=_) tab_ok mixed rfl rfl (by decide) (by simp[Go.Proofs.Tryz.f248]) ?_
 conv=>whnf
 refine⟨_,[],fun h nx _=>pureV_pure (uRight_ok p) ⟨.free (encP_free _),trivial⟩,by simp,?_⟩
 cases h1:prefOk p with
 | false=>
  conv=>whnf
  refine⟨by kernel_rfl,?_⟩
  conv=>whnf
  exact(Ends.pure [] (by repeat' (first|exact True.intro|exact .bool_of (by simp[coversP,h1])|exact .A|exact LeL.fr rfl|exact LeV.nineA|exact LeV.noA|refine .tupL ?_|refine .aggL ?_|refine⟨?_,?_⟩)) (by simp))
 | true=>
 conv=>whnf
 refine⟨_,[],fun h nx _=>pureV_pure (uRight_ok q) ⟨.free (encP_free _),trivial⟩,by simp,?_⟩
 cases h2:prefOk q with
 | false=>
  conv=>whnf
  refine⟨by kernel_rfl,?_⟩
  conv=>whnf
  exact(Ends.pure [] (by repeat' (first|exact True.intro|exact .bool_of (by simp[coversP,h1,h2])|exact .A|exact LeL.fr rfl|exact LeV.nineA|exact LeV.noA|refine .tupL ?_|refine .aggL ?_|refine⟨?_,?_⟩)) (by simp))
 | true=>
 conv=>whnf
 cases h3:decide ((p.len.toNat:Int)≤(q.len.toNat:Int))with
 | false=>
  conv=>whnf
  refine⟨by kernel_rfl,?_⟩
  conv=>whnf
  exact(Ends.pure [] (by repeat' (first|exact True.intro|exact .bool_of (by simp only[coversP,h1,h2,h3];rfl)|exact .A|exact LeL.fr rfl|exact LeV.nineA|exact LeV.noA|refine .tupL ?_|refine .aggL ?_|refine⟨?_,?_⟩)) (by simp))
 | true=>
 conv=>whnf
 refine⟨_,[],fun h nx _=>pureV_pure (mask_ok p.len) ⟨.free .int,trivial⟩,by simp,?_⟩
 conv=>whnf
 refine⟨by kernel_rfl,?_⟩
 conv=>whnf
 exact(Ends.pure [] (by repeat' (first|exact True.intro|exact .bool_of (by rw[coversP,h1,h2,h3,show 32 - p.len.toNat=hostN p from rfl,bits_and_mask _ (host_le p),cover_eq h1];rfl)|exact .A|exact LeL.fr rfl|exact LeV.nineA|exact LeV.noA|refine .tupL ?_|refine .aggL ?_|refine⟨?_,?_⟩)) (by simp))
def bitN (x:UInt32) (k:Nat):Nat:=x.toNat / 2 ^ k % 2
theorem tmod2 (d:Nat):Int.tmod (d:Int) 2=((d % 2:Nat):Int):=by
 rw[Int.tmod_eq_emod_of_nonneg (by omega)]
 omega
theorem half_pow (x:UInt32) (k:Nat):IntKind.u32.wrap (Int.tdiv ((x.toNat / 2 ^ k:Nat):Int) 2)=((x.toNat / 2 ^ (k + 1):Nat):Int):=by
 have hx:=x.toNat_lt
 have h1:x.toNat / 2 ^ k≤x.toNat:=Nat.div_le_self _ _
 rw[Nat.pow_succ,← Nat.div_div_eq_div_mul]
 generalize x.toNat / 2 ^ k=d at *
 rw[Int.tdiv_eq_ediv_of_nonneg (by omega),wrap32]
 omega
theorem bit_ok (x:UInt32) (i:Nat) (hi:i < 32):PCon prog 129 [cW x,cI i] (.int .u32 (bitN x (31 - i):Nat)):=by
 refine callV_of (fn:=Go.Proofs.Tryz.f129) (body:=_) tab_ok mixed rfl rfl (by decide) (by simp[Go.Proofs.Tryz.f129]) ?_
 conv=>whnf
 refine vcg_loop tab_ok mixed (fun k:{k:Nat // k≤31 - i}=>⟨[(0,.int .u32 (x.toNat / 2 ^ k.1:Nat)),(1,cI i),(5,cI k.1)],[],0⟩) (fun k=>31 - i - k.1) ⟨0,by omega⟩ (Wk.i (by repeat' (first|exact LHa|exact .int_of (by simp)|exact .A|exact LeL.fr rfl|exact LeV.nineA|exact LeV.noA|exact LHb|refine Or.inl ⟨by simp,_,rfl,?_⟩|exact Or.inr ⟨by simp,_,_,_,_,rfl⟩|refine⟨rfl,rfl,rfl,rfl,rfl,rfl,?_⟩|refine⟨?_,?_⟩)) (by omega)) (fun k=>?_)
 obtain⟨k,hk⟩:=k
 have w1:IntKind.i64.wrap (31 - (i:Int))=((31 - i:Nat):Int):=by rw[wrap64]<;>omega
 conv=>whnf
 split
 ·rename_i hc
  have hc:k < 31 - i:=by simp only[w1]at hc;simpa using hc
  have hx:=x.toNat_lt
  conv=>whnf
  refine⟨by decide,?_⟩
  conv=>whnf
  refine⟨⟨k + 1,by omega⟩,(Wk.i (by repeat' (first|exact LHa|exact .int_of (half_pow x k)|exact .int_of (by simp only;rw[wrap64]<;>omega)|exact .A|exact LeL.fr rfl|exact LeV.nineA|exact LeV.noA|exact LHb|refine Or.inl ⟨by simp,_,rfl,?_⟩|exact Or.inr ⟨by simp,_,_,_,_,rfl⟩|refine⟨rfl,rfl,rfl,rfl,rfl,rfl,?_⟩|refine⟨?_,?_⟩)) (by omega)),by simp only;omega⟩
 ·rename_i hc
  have hc:k=31 - i:=by simp only[w1]at hc;simp at hc;omega
  subst hc
  conv=>whnf
  refine⟨by decide,?_⟩
  conv=>whnf
  exact(Ends.pure [] (by repeat' (first|exact True.intro|exact .int_of (by rw[bitN];exact tmod2 _)|exact .A|exact LeL.fr rfl|exact LeV.nineA|exact LeV.noA|refine .tupL ?_|refine .aggL ?_|refine⟨?_,?_⟩)) (by simp))
theorem mod_bit (x:UInt32) {i:Nat} (hi:i < 32):x.toNat % 2 ^ (32 - i)=x.toNat % 2 ^ (31 - i)+ 2 ^ (31 - i) * bitN x (31 - i):=by
 rw[show 32 - i=(31 - i)+ 1 by omega,Nat.mod_pow_succ]
 rfl
theorem div_bit (x:UInt32) {i:Nat} (hi:i < 32):x.toNat / 2 ^ (31 - i)=2 * (x.toNat / 2 ^ (32 - i))+ bitN x (31 - i):=by
 rw[show 32 - i=(31 - i)+ 1 by omega,Nat.pow_succ,← Nat.div_div_eq_div_mul,bitN]
 omega
def x32 (p:Prefix) (i:Nat):Prop:=p.addr.toNat % 2 ^ (32 - p.len.toNat)=p.addr.toNat % 2 ^ (32 - i)
def y32 (p q:Prefix) (i:Nat):Prop:=q.addr.toNat / 2 ^ (32 - i)=p.addr.toNat / 2 ^ (32 - i)
theorem y32_zero (p q:Prefix):y32 p q 0:=by
 unfold y32
 rw[Nat.div_eq_of_lt q.addr.toNat_lt,Nat.div_eq_of_lt p.addr.toNat_lt]
theorem bits_of_div {p q:Prefix} {i:Nat} (e:q.addr.toNat / 2 ^ hostN p=p.addr.toNat / 2 ^ hostN p) (hi:i < p.len.toNat) (h32:p.len.toNat≤32):bitN p.addr (31 - i)=bitN q.addr (31 - i):=by
 have key:∀x:Nat,x / 2 ^ (31 - i)=x / 2 ^ hostN p / 2 ^ (p.len.toNat - 1 - i):=by
  intro x
  rw[Nat.div_div_eq_div_mul,← Nat.pow_add]
  congr 2
  unfold hostN
  omega
 unfold bitN
 rw[key,key,e]
theorem rRight_ok (p:Prefix):PCon prog 81 [encP p] (.bool (prefOk p)):=by
 refine callV_of (fn:=Go.Proofs.Tryz.f81) (body:=_) tab_ok mixed rfl rfl (by decide) (by simp[Go.Proofs.Tryz.f81]) ?_
 conv=>whnf
 split
 ·rename_i h
  conv=>whnf
  exact(Ends.pure [] (by repeat' (first|exact True.intro|exact .bool_of (by simp at h;simp[prefOk];omega)|exact .A|exact LeL.fr rfl|exact LeV.nineA|exact LeV.noA|refine .tupL ?_|refine .aggL ?_|refine⟨?_,?_⟩)) (by simp))
 ·rename_i h
  have h32:p.len.toNat≤32:=by simp at h;omega
  have hn:hostN p=32 - p.len.toNat:=rfl
  have w0:IntKind.i64.wrap (p.len.toNat:Int)=(p.len.toNat:Int):=wrap64 (by omega) (by omega)
  conv=>whnf
  refine vcg_loop tab_ok mixed (fun i:{i:Nat // i≤32∧x32 p i}=>⟨[(1,.ptr 0 0),(3,cI i.1)],[(0,some (.var true 31 (cellsP p)))],1⟩) (fun i=>32 - i.1) ⟨p.len.toNat,h32,rfl⟩ (Wk.i (by repeat' (first|exact LHa|exact .int_of w0|exact .A|exact LeL.fr rfl|exact LeV.nineA|exact LeV.noA|exact LHb|refine Or.inl ⟨by simp,_,rfl,?_⟩|exact Or.inr ⟨by simp,_,_,_,_,rfl⟩|refine⟨rfl,rfl,rfl,rfl,rfl,rfl,?_⟩|refine⟨?_,?_⟩)) (by omega)) (fun i=>?_)
  obtain⟨i,hi,hx⟩:=i
  conv=>whnf
  split
  ·rename_i hc
   have hc:i < 32:=by simp at hc;omega
   conv=>whnf
   refine callV_pure (bit_ok p.addr i hc) ⟨.free .int,.int_of rfl,trivial⟩ ?_
   conv=>whnf
   have hb:=mod_bit p.addr hc
   have hlt:bitN p.addr (31 - i) < 2:=Nat.mod_lt _ (by decide)
   split
   ·rename_i h1
    have h1:bitN p.addr (31 - i)=1:=by simp at h1;omega
    have hp:=Nat.two_pow_pos (31 - i)
    conv=>whnf
    refine(Ends.pure [] (by repeat' (first|exact True.intro|exact .bool_of (by symm;simp only[prefOk,Bool.and_eq_false_iff];right;rw[decide_eq_false_iff_not,hn];intro h0;unfold x32 at hx;rw[hx,hb,h1]at h0;omega)|exact .A|exact LeL.fr rfl|exact LeV.nineA|exact LeV.noA|refine .tupL ?_|refine .aggL ?_|refine⟨?_,?_⟩)) (by simp))
   ·rename_i h1
    have h1:bitN p.addr (31 - i)=0:=by simp at h1;omega
    conv=>whnf
    refine⟨⟨i + 1,by omega,?_⟩,(Wk.i (by repeat' (first|exact LHa|exact .int_of (by simp only;rw[wrap64]<;>omega)|exact .A|exact LeL.fr rfl|exact LeV.nineA|exact LeV.noA|exact LHb|refine Or.inl ⟨by simp,_,rfl,?_⟩|exact Or.inr ⟨by simp,_,_,_,_,rfl⟩|refine⟨rfl,rfl,rfl,rfl,rfl,rfl,?_⟩|refine⟨?_,?_⟩)) (by omega)),by simp only;omega⟩
    unfold x32 at hx ⊢
    rw[hx,hb,h1,show 32 - (i + 1)=31 - i by omega]
    omega
  ·rename_i hc
   have hc:i=32:=by simp at hc;omega
   subst hc
   conv=>whnf
   refine(Ends.pure [] (by repeat' (first|exact True.intro|exact .bool_of (by symm;simp only[prefOk,Bool.and_eq_true,decide_eq_true_eq];refine⟨by omega,?_⟩;rw[hn];unfold x32 at hx;rw[hx];exact Nat.mod_one _)|exact .A|exact LeL.fr rfl|exact LeV.nineA|exact LeV.noA|refine .tupL ?_|refine .aggL ?_|refine⟨?_,?_⟩)) (by simp))
theorem rCovers_ok (p q:Prefix):PCon prog 211 [encP p,encP q] (.bool (coversP p q)):=by
 refine callV_of (fn:=Go.Proofs.Tryz.f211) (body:=_) tab_ok mixed rfl rfl (by decide) (by simp[Go.Proofs.Tryz.f211]) ?_
 conv=>whnf
 refine callV_pure (rRight_ok p) ⟨.free (encP_free _),trivial⟩ ?_
 cases h1:prefOk p with
 | false=>
  conv=>whnf
  exact(Ends.pure [] (by repeat' (first|exact True.intro|exact .bool_of (by simp[coversP,h1])|exact .A|exact LeL.fr rfl|exact LeV.nineA|exact LeV.noA|refine .tupL ?_|refine .aggL ?_|refine⟨?_,?_⟩)) (by simp))
 | true=>
 conv=>whnf
 refine callV_pure (rRight_ok q) ⟨.free (encP_free _),trivial⟩ ?_
 cases h2:prefOk q with
 | false=>
  conv=>whnf
  exact(Ends.pure [] (by repeat' (first|exact True.intro|exact .bool_of (by simp[coversP,h1,h2])|exact .A|exact LeL.fr rfl|exact LeV.nineA|exact LeV.noA|refine .tupL ?_|refine .aggL ?_|refine⟨?_,?_⟩)) (by simp))
 | true=>
 conv=>whnf
 split
 ·rename_i h3
  conv=>whnf
  exact(Ends.pure [] (by repeat' (first|exact True.intro|exact .bool_of (by symm;simp only[coversP,h1,h2];simp at h3;simp;intro h;omega)|exact .A|exact LeL.fr rfl|exact LeV.nineA|exact LeV.noA|refine .tupL ?_|refine .aggL ?_|refine⟨?_,?_⟩)) (by simp))
 ·rename_i h3
  have h3:p.len.toNat≤q.len.toNat:=by simp at h3;omega
  have hp32:p.len.toNat≤32:=by simp only[prefOk,Bool.and_eq_true,decide_eq_true_eq]at h1;omega
  have w0:IntKind.i64.wrap (p.len.toNat:Int)=(p.len.toNat:Int):=wrap64 (by omega) (by omega)
  conv=>whnf
  refine vcg_loop tab_ok mixed (fun i:{i:Nat // i≤p.len.toNat∧y32 p q i}=>⟨[(2,.ptr 0 0),(3,.ptr 1 0),(5,cI i.1)],[(0,some (.var true 31 (cellsP p))),(1,some (.var true 31 (cellsP q)))],2⟩) (fun i=>32 - i.1) ⟨0,by omega,y32_zero p q⟩ (Wk.i (by repeat' (first|exact LHa|exact .A|exact LeL.fr rfl|exact LeV.nineA|exact LeV.noA|exact LHb|refine Or.inl ⟨by simp,_,rfl,?_⟩|exact Or.inr ⟨by simp,_,_,_,_,rfl⟩|refine⟨rfl,rfl,rfl,rfl,rfl,rfl,?_⟩|refine⟨?_,?_⟩)) (by omega)) (fun i=>?_)
  obtain⟨i,hi,hx⟩:=i
  conv=>whnf
  split
  ·rename_i hc
   have hc:i < p.len.toNat:=by simp only[w0]at hc;simpa using hc
   conv=>whnf
   refine⟨_,[],fun h nx _=>pureV_pure (bit_ok p.addr i (by omega)) ⟨.free .int,.int_of rfl,trivial⟩,by simp,?_⟩
   conv=>whnf
   refine⟨_,[],fun h nx _=>pureV_pure (bit_ok q.addr i (by omega)) ⟨.free .int,.int_of rfl,trivial⟩,by simp,?_⟩
   conv=>whnf
   refine⟨by kernel_rfl,?_⟩
   conv=>whnf
   have hb:=div_bit p.addr (i:=i) (by omega)
   have hb':=div_bit q.addr (i:=i) (by omega)
   unfold y32 at hx
   split
   ·rename_i hne
    have hne:bitN p.addr (31 - i) ≠ bitN q.addr (31 - i):=by intro e;rw[e]at hne;simp at hne
    conv=>whnf
    refine(Ends.pure [] (by repeat' (first|exact True.intro|exact .bool_of (by symm;simp only[coversP,h1,h2,Bool.true_and,Bool.and_eq_false_iff];right;rw[decide_eq_false_iff_not];intro e;exact hne (bits_of_div e hc hp32))|exact .A|exact LeL.fr rfl|exact LeV.nineA|exact LeV.noA|refine .tupL ?_|refine .aggL ?_|refine⟨?_,?_⟩)) (by simp))
   ·rename_i hne
    have hne:bitN p.addr (31 - i)=bitN q.addr (31 - i):=by simp at hne;omega
    conv=>whnf
    refine⟨⟨i + 1,by omega,?_⟩,(Wk.i (by repeat' (first|exact LHa|exact .int_of (by simp only;rw[wrap64]<;>omega)|exact .A|exact LeL.fr rfl|exact LeV.nineA|exact LeV.noA|exact LHb|refine Or.inl ⟨by simp,_,rfl,?_⟩|exact Or.inr ⟨by simp,_,_,_,_,rfl⟩|refine⟨rfl,rfl,rfl,rfl,rfl,rfl,?_⟩|refine⟨?_,?_⟩)) (by omega)),by simp only;omega⟩
    unfold y32
    rw[show 32 - (i + 1)=31 - i by omega,hb,hb',hx,hne]
  ·rename_i hc
   have hc:i=p.len.toNat:=by simp only[w0]at hc;simp at hc;omega
   subst hc
   conv=>whnf
   refine(Ends.pure [] (by repeat' (first|exact True.intro|exact .bool_of (by symm;simp only[coversP,h1,h2,Bool.true_and,Bool.and_eq_true,decide_eq_true_eq];exact⟨by omega,hx⟩)|exact .A|exact LeL.fr rfl|exact LeV.nineA|exact LeV.noA|refine .tupL ?_|refine .aggL ?_|refine⟨?_,?_⟩)) (by simp))
end
section
open Go.Proofs.Tryz (prog)
attribute [local irreducible] CallV RoundV
def ruleOk (r:Rule):Bool:=prefOk r.cover && decide ((r.least.toNat:Int)≤r.most.toNat)&& decide ((r.most.toNat:Int)≤32)&& decide ((r.times.toNat:Int)≤8)&& (r.hasTag || r.tag == 0)&& (r.hasPref || r.pref == 0)&& (r.hasMed || r.med == 0)&& (r.hasAdd || r.add == 0)&& !(r.deny && (r.hasPref || r.hasMed || r.hasAdd || decide ((0:Int) < r.times.toNat)))
theorem pos_ne (t:Nat):decide (0 < t)=!((t:Int) == 0):=by
 cases t with
 | zero=>rfl
 | succ t=>rw[decide_eq_true (by omega)];symm;rw[Bool.not_eq_true',beq_eq_false_iff_ne];omega
theorem either_ok (b:Bool) (x:UInt32):PCon prog 119 [.bool b,cW x] (.bool (b || x == 0)):=by
 refine callV_of (fn:=Go.Proofs.Tryz.f119) (body:=_) tab_ok mixed rfl rfl (by decide) (by simp[Go.Proofs.Tryz.f119]) ?_
 conv=>whnf
 cases b with
 | true=>
  conv=>whnf
  exact(Ends.pure [] (by first|exact .A|exact LeL.fr rfl|exact LeV.nineA|exact LeV.noA) (by simp))
 | false=>
  conv=>whnf
  exact(Ends.pure [] (by repeat' (first|exact True.intro|exact .bool_of (by rw[u32_eq];rfl)|exact .A|exact LeL.fr rfl|exact LeV.nineA|exact LeV.noA|refine .tupL ?_|refine .aggL ?_|refine⟨?_,?_⟩)) (by simp))
theorem right23_ok (r:Rule):PCon prog 67 [encRu r] (.bool (ruleOk r)):=by
 have fin:∀{s:St} {b:Bool},ruleOk r=b→∃v1 h' nx',Ends 0 s (.bool b) v1 h' nx'∧(v1=.bool (ruleOk r)∧h'=[]∧nx'=0):=fun h=>Ends.pure [] (.bool_of h.symm) (by simp)
 obtain⟨⟨ca,cl⟩,least,most,hasTag,tag,sys,deny,hasPref,hasMed,hasAdd,pref,med,add,times⟩:=r
 refine callV_of (fn:=Go.Proofs.Tryz.f67) (body:=_) tab_ok mixed rfl rfl (by decide) (by simp[Go.Proofs.Tryz.f67]) ?_
 conv=>whnf
 repeat' first
  | refine fin ?_
  | (split<;>(conv=>whnf))
  | (refine callV_pure (uRight_ok ⟨ca,cl⟩) ⟨.free (encP_free _),trivial⟩ ?_;(conv=>whnf))
  | (refine callV_pure (either_ok hasTag tag) ⟨.free .bool,.free .int,trivial⟩ ?_;(conv=>whnf))
  | (refine callV_pure (either_ok hasPref pref) ⟨.free .bool,.free .int,trivial⟩ ?_;(conv=>whnf))
  | (refine callV_pure (either_ok hasMed med) ⟨.free .bool,.free .int,trivial⟩ ?_;(conv=>whnf))
  | (refine callV_pure (either_ok hasAdd add) ⟨.free .bool,.free .int,trivial⟩ ?_;(conv=>whnf))
 all_goals clear fin
 all_goals (try simp_all[ruleOk])
 all_goals (try (intros;exfalso;omega))
theorem rule23_ok (r:Rule):PCon prog 69 [encRu r] (.bool (ruleOk r)):=by
 have fin:∀{s:St} {b:Bool},ruleOk r=b→∃v1 h' nx',Ends 0 s (.bool b) v1 h' nx'∧(v1=.bool (ruleOk r)∧h'=[]∧nx'=0):=fun h=>Ends.pure [] (.bool_of h.symm) (by simp)
 obtain⟨⟨ca,cl⟩,least,most,hasTag,tag,sys,deny,hasPref,hasMed,hasAdd,pref,med,add,times⟩:=r
 refine callV_of (fn:=Go.Proofs.Tryz.f69) (body:=_) tab_ok mixed rfl rfl (by decide) (by simp[Go.Proofs.Tryz.f69]) ?_
 conv=>whnf
 refine callV_pure (rRight_ok ⟨ca,cl⟩) ⟨.free (encP_free _),trivial⟩ ?_
 conv=>whnf
 repeat' first
  | refine fin ?_
  | (split<;>(conv=>whnf))
 all_goals clear fin
 all_goals (try simp only[u32_ne,u32_eq]at *)
 all_goals (try simp_all[ruleOk])
 all_goals (try (intros;exfalso;omega))
 all_goals exact pos_ne _
theorem check1_ok (r:Rule):PCon prog 66 [encRu r] (.bool (!ruleOk r)):=by
 refine callV_of (fn:=Go.Proofs.Tryz.f66) (body:=_) tab_ok mixed rfl rfl (by decide) (by simp[Go.Proofs.Tryz.f66]) ?_
 conv=>whnf
 refine callV_pure (right23_ok r) ⟨.free (encRu_free _),trivial⟩ ?_
 conv=>whnf
 exact(Ends.pure [] (by first|exact .A|exact LeL.fr rfl|exact LeV.nineA|exact LeV.noA) (by simp))
def fnC1:V:=.fn (.func 66) [] []
theorem fnC1_free:Free fnC1:=.fn (by simp) (by simp)
theorem indexRu_ok (fr:Bool) (l:List Rule):∃n:Int,PCon prog 118 [encRus fr l,fnC1] (.int .i64 n)∧(0≤n↔l.all ruleOk=false):=by
 refine⟨if l.all ruleOk then -1 else(l.findIdx (!ruleOk ·):Nat),?_,by split<;>rename_i h<;>simp[h]⟩
 refine callV_of (fn:=Go.Proofs.Tryz.f118) (body:=_) tab_ok mixed rfl rfl (by decide) (by simp[Go.Proofs.Tryz.f118]) ?_
 conv=>whnf
 intro hl
 have hl:l.length≤maxLen:=by simpa[gd]using hl
 conv=>whnf
 refine vcg_loop tab_ok mixed (fun i:{i:Nat // i≤l.length∧(l.take i).all ruleOk=true}=>⟨[(0,encRus fr l),(1,fnC1),(7,cI l.length),(8,cI i.1)],[],0⟩) (fun i=>l.length - i.1) ⟨0,by omega,rfl⟩ (Wk.i (by repeat' (first|exact LHa|exact .free fnC1_free|exact .int_of (by simp)|exact .A|exact LeL.fr rfl|exact LeV.nineA|exact LeV.noA|exact LHb|refine Or.inl ⟨by simp,_,rfl,?_⟩|exact Or.inr ⟨by simp,_,_,_,_,rfl⟩|refine⟨rfl,rfl,rfl,rfl,rfl,rfl,?_⟩|refine⟨?_,?_⟩)) (by omega)) (fun i=>?_)
 obtain⟨i,hi,hz⟩:=i
 conv=>whnf
 split
 ·rename_i hc
  have hc:i < l.length:=by simpa using hc
  conv=>whnf
  refine⟨rfl,_,⟨by simp only;omega,idxRu hc⟩,?_⟩
  conv=>whnf
  refine callV_pure (check1_ok l[i]) ⟨.free (encRu_free _),trivial⟩ ?_
  conv=>whnf
  split
  ·rename_i h1
   have h1:ruleOk l[i]=false:=by simpa using h1
   have:=all_false (p:=ruleOk) hc h1
   conv=>whnf
   refine(Ends.pure [] (by repeat' (first|exact True.intro|exact .int_of (by rw[if_neg (by rw[this];simp)];congr 1;symm;rw[List.findIdx_eq hc];refine⟨by simp[h1],fun j hj=>?_⟩;rw[List.all_eq_true]at hz;have:=hz (l[j]'(by omega)) (by rw[List.mem_take_iff_getElem];exact⟨j,by omega,rfl⟩);simpa using this)|exact .A|exact LeL.fr rfl|exact LeV.nineA|exact LeV.noA|refine .tupL ?_|refine .aggL ?_|refine⟨?_,?_⟩)) (by simp))
  ·rename_i h1
   conv=>whnf
   exact⟨⟨i + 1,by omega,by rw[all_take_succ hc,hz];simpa using h1⟩,(Wk.i (by repeat' (first|exact LHa|exact .free fnC1_free|exact .int_of (wrap64_succ hc hl)|exact .A|exact LeL.fr rfl|exact LeV.nineA|exact LeV.noA|exact LHb|refine Or.inl ⟨by simp,_,rfl,?_⟩|exact Or.inr ⟨by simp,_,_,_,_,rfl⟩|refine⟨rfl,rfl,rfl,rfl,rfl,rfl,?_⟩|refine⟨?_,?_⟩)) (by omega)),by simp only;omega⟩
 ·rename_i hc
  have hc:i=l.length:=by simp at hc;omega
  subst hc
  conv=>whnf
  refine(Ends.pure [] (by repeat' (first|exact True.intro|exact .int_of (by rw[List.take_length]at hz;rw[if_pos hz])|exact .A|exact LeL.fr rfl|exact LeV.nineA|exact LeV.noA|refine .tupL ?_|refine .aggL ?_|refine⟨?_,?_⟩)) (by simp))
theorem containsRu_ok (fr:Bool) (l:List Rule):PCon prog 65 [encRus fr l,fnC1] (.bool (!l.all ruleOk)):=by
 obtain⟨n,hn,hiff⟩:=indexRu_ok fr l
 refine callV_of (fn:=Go.Proofs.Tryz.f65) (body:=_) tab_ok mixed rfl rfl (by decide) (by simp[Go.Proofs.Tryz.f65]) ?_
 conv=>whnf
 refine callV_pure hn ⟨.free (encRus_free _ _),.free fnC1_free,trivial⟩ ?_
 conv=>whnf
 refine(Ends.pure [] (by repeat' (first|exact True.intro|exact .bool_of (by cases hb:l.all ruleOk with|true=>rw[hb]at hiff;simp at hiff;simp;omega|false=>have:=hiff.2 hb;simp;omega)|exact .A|exact LeL.fr rfl|exact LeV.nineA|exact LeV.noA|refine .tupL ?_|refine .aggL ?_|refine⟨?_,?_⟩)) (by simp))
def checkP (p:Policy):Int:=if p.rules.all ruleOk=false then 2 else if 16 < p.rules.length then 3 else 0
theorem check23_ok (fr:Bool) (p:Policy):PCon prog 33 [encPo fr p] (.int .i64 (checkP p)):=by
 refine callV_of (fn:=Go.Proofs.Tryz.f33) (body:=_) tab_ok mixed rfl rfl (by decide) (by simp[Go.Proofs.Tryz.f33]) ?_
 conv=>whnf
 refine callV_pure (containsRu_ok fr p.rules) ⟨.free (encRus_free _ _),.free fnC1_free,trivial⟩ ?_
 cases h:p.rules.all ruleOk with
 | false=>
  conv=>whnf
  exact(Ends.pure [] (by repeat' (first|exact True.intro|exact .int_of (by simp[checkP,h])|exact .A|exact LeL.fr rfl|exact LeV.nineA|exact LeV.noA|refine .tupL ?_|refine .aggL ?_|refine⟨?_,?_⟩)) (by simp))
 | true=>
  conv=>whnf
  intro _
  conv=>whnf
  split
  ·rename_i h16
   conv=>whnf
   exact(Ends.pure [] (by repeat' (first|exact True.intro|exact .int_of (by simp only[checkP,h];simp at h16;rw[if_neg (by simp),if_pos (by omega)])|exact .A|exact LeL.fr rfl|exact LeV.nineA|exact LeV.noA|refine .tupL ?_|refine .aggL ?_|refine⟨?_,?_⟩)) (by simp))
  ·rename_i h16
   conv=>whnf
   exact(Ends.pure [] (by repeat' (first|exact True.intro|exact .int_of (by simp only[checkP,h];simp at h16;rw[if_neg (by simp),if_neg (by omega)])|exact .A|exact LeL.fr rfl|exact LeV.nineA|exact LeV.noA|refine .tupL ?_|refine .aggL ?_|refine⟨?_,?_⟩)) (by simp))
theorem rcheck23_ok (fr:Bool) (p:Policy):PCon prog 36 [encPo fr p] (.int .i64 (checkP p)):=by
 refine callV_of (fn:=Go.Proofs.Tryz.f36) (body:=_) tab_ok mixed rfl rfl (by decide) (by simp[Go.Proofs.Tryz.f36]) ?_
 conv=>whnf
 refine vcg_loop tab_ok mixed (fun i:{i:Nat // i≤p.rules.length∧(p.rules.take i).all ruleOk=true}=>⟨[(1,.ptr 0 0),(3,cI i.1)],[(0,some (.var true 29 (cellsPo fr p)))],1⟩) (fun i=>p.rules.length - i.1) ⟨0,by omega,rfl⟩ (Wk.i (by repeat' (first|exact LHa|exact .A|exact LeL.fr rfl|exact LeV.nineA|exact LeV.noA|exact LHb|refine Or.inl ⟨by simp,_,rfl,?_⟩|exact Or.inr ⟨by simp,_,_,_,_,rfl⟩|refine⟨rfl,rfl,rfl,rfl,rfl,rfl,?_⟩|refine⟨?_,?_⟩)) (by omega)) (fun i=>?_)
 obtain⟨i,hi,hz⟩:=i
 conv=>whnf
 intro hl
 have hl:p.rules.length≤maxLen:=by simpa[gd]using hl
 conv=>whnf
 split
 ·rename_i hc
  have hc:i < p.rules.length:=by simpa using hc
  conv=>whnf
  refine ixK (idxRu hc) ?_
  conv=>whnf
  refine callV_pure (rule23_ok p.rules[i]) ⟨.free (encRu_free _),trivial⟩ ?_
  conv=>whnf
  split
  ·rename_i h1
   have h1:ruleOk p.rules[i]=false:=by simpa using h1
   conv=>whnf
   exact(Ends.pure [] (by repeat' (first|exact True.intro|exact .int_of (by simp[checkP,all_false hc h1])|exact .A|exact LeL.fr rfl|exact LeV.nineA|exact LeV.noA|refine .tupL ?_|refine .aggL ?_|refine⟨?_,?_⟩)) (by simp))
  ·rename_i h1
   conv=>whnf
   exact⟨⟨i + 1,by omega,by rw[all_take_succ hc,hz];simpa using h1⟩,(Wk.i (by repeat' (first|exact LHa|exact .int_of (wrap64_succ hc hl)|exact .A|exact LeL.fr rfl|exact LeV.nineA|exact LeV.noA|exact LHb|refine Or.inl ⟨by simp,_,rfl,?_⟩|exact Or.inr ⟨by simp,_,_,_,_,rfl⟩|refine⟨rfl,rfl,rfl,rfl,rfl,rfl,?_⟩|refine⟨?_,?_⟩)) (by omega)),by simp only;omega⟩
 ·rename_i hc
  have hc:i=p.rules.length:=by simp at hc;omega
  subst hc
  rw[List.take_length]at hz
  conv=>whnf
  intro _
  conv=>whnf
  split
  ·rename_i h16
   conv=>whnf
   exact(Ends.pure [] (by repeat' (first|exact True.intro|exact .int_of (by simp only[checkP,hz];simp at h16;rw[if_neg (by simp),if_pos (by omega)])|exact .A|exact LeL.fr rfl|exact LeV.nineA|exact LeV.noA|refine .tupL ?_|refine .aggL ?_|refine⟨?_,?_⟩)) (by simp))
  ·rename_i h16
   conv=>whnf
   exact(Ends.pure [] (by repeat' (first|exact True.intro|exact .int_of (by simp only[checkP,hz];simp at h16;rw[if_neg (by simp),if_neg (by omega)])|exact .A|exact LeL.fr rfl|exact LeV.nineA|exact LeV.noA|refine .tupL ?_|refine .aggL ?_|refine⟨?_,?_⟩)) (by simp))
end
section
open Go.Proofs.Tryz (prog)
attribute [local irreducible] CallV RoundV
def tagB (r:Rule) (a:Attrs):Bool:=!r.hasTag || a.tags.contains r.tag
def sysB (r:Rule) (a:Attrs):Bool:=r.sys == 0 || hasA a.path r.sys
def lenB (r:Rule) (p:Prefix):Bool:=decide ((r.least.toNat:Int)≤p.len.toNat)&& decide ((p.len.toNat:Int)≤r.most.toNat)
def askB (r:Rule) (p:Prefix) (a:Attrs):Nat→Bool
 | 0=>ruleOk r
 | 1=>prefOk p && rightA a
 | 2=>coversP r.cover p
 | 3=>lenB r p
 | 4=>tagB r a
 | _=>sysB r a
def fits (r:Rule) (p:Prefix) (a:Attrs):Bool:=ruleOk r && (prefOk p && rightA a)&& coversP r.cover p && lenB r p && tagB r a && sysB r a
theorem fits_all {r:Rule} {p:Prefix} {a:Attrs} (h:∀k,k < 6→askB r p a k=true):fits r p a=true:=by
 have h0:=h 0 (by omega)
 have h1:=h 1 (by omega)
 have h2:=h 2 (by omega)
 have h3:=h 3 (by omega)
 have h4:=h 4 (by omega)
 have h5:=h 5 (by omega)
 simp only[askB]at h0 h1 h2 h3 h4 h5
 simp only[fits,h0,h1,h2,h3,h4,h5];rfl
theorem fits_not {r:Rule} {p:Prefix} {a:Attrs} {k:Nat} (hk:k < 6) (h:askB r p a k=false):fits r p a=false:=by
 rcases k with _|_|_|_|_|_|k
 ·simp only[askB]at h;simp[fits,h]
 ·simp only[askB]at h;simp only[fits,h];simp
 ·simp only[askB]at h;simp[fits,h]
 ·simp only[askB]at h;simp[fits,h]
 ·simp only[askB]at h;simp[fits,h]
 ·simp only[askB]at h;simp[fits,h]
 ·omega
theorem contains_all {l:List UInt32} {x:UInt32}:(!l.all (· != x))=l.contains x:=by
 rw[List.contains_eq_any_beq]
 induction l with
 | nil=>rfl
 | cons y l ih=>
  simp only[List.all_cons,List.any_cons,Bool.not_and,ih]
  rw[show(!(y != x))=(x == y)by rw[bne,Bool.not_not];exact BEq.comm]
def asksRows (fr:Bool) (r:Rule) (p:Prefix) (a:Attrs):List (List V):=[
 [.fn (.func 245) [] [.iptr true (cellsRu r)]],
 [.fn (.func 246) [] [.iptr true (cellsP p),.iptr true (cellsA fr a)]],
 [.fn (.func 247) [] [.iptr true (cellsRu r),.iptr true (cellsP p)]],
 [.fn (.func 249) [] [.iptr true (cellsRu r),.iptr true (cellsP p)]],
 [.fn (.func 250) [] [.iptr true (cellsRu r),.iptr true (cellsA fr a)]],
 [.fn (.func 251) [] [.iptr true (cellsRu r),.iptr true (cellsA fr a)]]]
def asksV (fr:Bool) (r:Rule) (p:Prefix) (a:Attrs):V:=.sl true 1 (asksRows fr r p a)
theorem asksRows_free (fr:Bool) (r:Rule) (p:Prefix) (a:Attrs):∀x∈asksRows fr r p a,∀v∈x,Free v:=by
 have h1:Free (.iptr true (cellsRu r)):=.iptr (cellsRu_free r)
 have h2:Free (.iptr true (cellsP p)):=.iptr (cellsP_free p)
 have h3:Free (.iptr true (cellsA fr a)):=.iptr (cellsA_free fr a)
 intro x hx v hv
 simp only[asksRows,List.mem_cons,List.not_mem_nil,or_false]at hx
 rcases hx with rfl|rfl|rfl|rfl|rfl|rfl<;>(simp only[List.mem_singleton]at hv;subst hv;refine .fn (by simp) ?_;intro v hv;simp only[List.mem_cons,List.not_mem_nil,or_false]at hv)
 ·subst hv;exact h1
 ·rcases hv with rfl|rfl;exact h2;exact h3
 ·rcases hv with rfl|rfl;exact h1;exact h2
 ·rcases hv with rfl|rfl;exact h1;exact h2
 ·rcases hv with rfl|rfl;exact h1;exact h3
 ·rcases hv with rfl|rfl;exact h1;exact h3
theorem asksV_free (fr:Bool) (r:Rule) (p:Prefix) (a:Attrs):Free (asksV fr r p a):=.sl (asksRows_free fr r p a)
instance {fr r p a}:FreeI (asksV fr r p a):=⟨⟨asksV_free fr r p a⟩⟩
theorem LeV.fzP {h:Heap} {nx nx':Nat} {ρ:Nat→Nat} {Z:List Nat} {b:Nat} {fr:Bool} {ty:TypeId} {cells:List V} (hz:b∈Z) (hb:hget h b=some (.var fr ty cells)) (hf:∀v∈cells,Free v):LeV h nx ρ nx' Z (.ptr b 0) (.iptr fr cells):=LeV.freezeP (col:=0) hz hb hf
theorem asks_ok (fr:Bool) (r:Rule) (p:Prefix) (a:Attrs):PCon prog 235 [encRu r,encP p,encA fr a] (asksV fr r p a):=by
 refine callV_of (fn:=Go.Proofs.Tryz.f235) (body:=_) tab_ok mixed rfl rfl (by decide) (by simp[Go.Proofs.Tryz.f235]) ?_
 conv=>whnf
 refine Ends.pure [0,1,2,3] (LeV.freezeR (by simp) rfl (Nat.le_refl 6) ⟨⟨.fnL trivial ⟨?_,trivial⟩,trivial⟩,⟨.fnL trivial ⟨?_,?_,trivial⟩,trivial⟩,⟨.fnL trivial ⟨?_,?_,trivial⟩,trivial⟩,⟨.fnL trivial ⟨?_,?_,trivial⟩,trivial⟩,⟨.fnL trivial ⟨?_,?_,trivial⟩,trivial⟩,⟨.fnL trivial ⟨?_,?_,trivial⟩,trivial⟩,trivial⟩) (by intro z hz;simp only[List.mem_cons,List.not_mem_nil,or_false]at hz;rcases hz with rfl|rfl|rfl|rfl<;>exact ne_none_of rfl)
 all_goals first|exact .fzP (by simp) rfl (cellsRu_free r)|exact .fzP (by simp) rfl (cellsP_free p)|exact .fzP (by simp) rfl (cellsA_free fr a)
theorem ask1_ok (fr:Bool) (r:Rule):PCon prog 245 [.iptr true (cellsRu r)] (.bool (ruleOk r)):=by
 refine callV_of (fn:=Go.Proofs.Tryz.f245) (body:=_) tab_ok mixed rfl rfl (by decide) (by simp[Go.Proofs.Tryz.f245]) ?_
 conv=>whnf
 refine callV_pure (right23_ok r) ⟨.free (encRu_free _),trivial⟩ ?_
 conv=>whnf
 exact(Ends.pure [] (by first|exact .A|exact LeL.fr rfl|exact LeV.nineA|exact LeV.noA) (by simp))
theorem ask2_ok (fr:Bool) (p:Prefix) (a:Attrs):PCon prog 246 [.iptr true (cellsP p),.iptr true (cellsA fr a)] (.bool (prefOk p && rightA a)):=by
 refine callV_of (fn:=Go.Proofs.Tryz.f246) (body:=_) tab_ok mixed rfl rfl (by decide) (by simp[Go.Proofs.Tryz.f246]) ?_
 conv=>whnf
 refine callV_pure (uRight_ok p) ⟨.free (encP_free _),trivial⟩ ?_
 cases h:prefOk p with
 | false=>
  conv=>whnf
  exact(Ends.pure [] (by first|exact .A|exact LeL.fr rfl|exact LeV.nineA|exact LeV.noA) (by simp))
 | true=>
  conv=>whnf
  refine callV_pure (check_ok fr a) ⟨.free (encA_free _ _),trivial⟩ ?_
  conv=>whnf
  exact(Ends.pure [] (by repeat' (first|exact True.intro|exact .bool_of (by cases hr:rightA a<;>simp[checkA,hr])|exact .A|exact LeL.fr rfl|exact LeV.nineA|exact LeV.noA|refine .tupL ?_|refine .aggL ?_|refine⟨?_,?_⟩)) (by simp))
theorem ask3_ok (r:Rule) (p:Prefix):PCon prog 247 [.iptr true (cellsRu r),.iptr true (cellsP p)] (.bool (coversP r.cover p)):=by
 refine callV_of (fn:=Go.Proofs.Tryz.f247) (body:=_) tab_ok mixed rfl rfl (by decide) (by simp[Go.Proofs.Tryz.f247]) ?_
 conv=>whnf
 refine callV_pure (uCovers_ok r.cover p) ⟨.free (encP_free _),.free (encP_free _),trivial⟩ ?_
 conv=>whnf
 exact(Ends.pure [] (by first|exact .A|exact LeL.fr rfl|exact LeV.nineA|exact LeV.noA) (by simp))
theorem ask4_ok (r:Rule) (p:Prefix):PCon prog 249 [.iptr true (cellsRu r),.iptr true (cellsP p)] (.bool (lenB r p)):=by
 refine callV_of (fn:=Go.Proofs.Tryz.f249) (body:=_) tab_ok mixed rfl rfl (by decide) (by simp[Go.Proofs.Tryz.f249]) ?_
 conv=>whnf
 cases h:decide ((r.least.toNat:Int)≤(p.len.toNat:Int))with
 | false=>
  conv=>whnf
  exact(Ends.pure [] (by repeat' (first|exact True.intro|exact .bool_of (by simp only[lenB,h];rfl)|exact .A|exact LeL.fr rfl|exact LeV.nineA|exact LeV.noA|refine .tupL ?_|refine .aggL ?_|refine⟨?_,?_⟩)) (by simp))
 | true=>
  conv=>whnf
  exact(Ends.pure [] (by repeat' (first|exact True.intro|exact .bool_of (by simp only[lenB,h];rfl)|exact .A|exact LeL.fr rfl|exact LeV.nineA|exact LeV.noA|refine .tupL ?_|refine .aggL ?_|refine⟨?_,?_⟩)) (by simp))
theorem ask5_ok (fr:Bool) (r:Rule) (a:Attrs):PCon prog 250 [.iptr true (cellsRu r),.iptr true (cellsA fr a)] (.bool (tagB r a)):=by
 obtain⟨c,least,most,hasTag,tag,sys,deny,hasPref,hasMed,hasAdd,pref,med,add,times⟩:=r
 refine callV_of (fn:=Go.Proofs.Tryz.f250) (body:=_) tab_ok mixed rfl rfl (by decide) (by simp[Go.Proofs.Tryz.f250]) ?_
 conv=>whnf
 cases hasTag with
 | false=>
  conv=>whnf
  exact(Ends.pure [] (by first|exact .A|exact LeL.fr rfl|exact LeV.nineA|exact LeV.noA) (by simp))
 | true=>
  conv=>whnf
  refine callV_pure (contains_ok fr a.tags tag) ⟨.free (encW_free _ _),.free .int,trivial⟩ ?_
  conv=>whnf
  exact(Ends.pure [] (by repeat' (first|exact True.intro|exact .bool_of (by rw[contains_all];rfl)|exact .A|exact LeL.fr rfl|exact LeV.nineA|exact LeV.noA|refine .tupL ?_|refine .aggL ?_|refine⟨?_,?_⟩)) (by simp))
theorem ask6_ok (fr:Bool) (r:Rule) (a:Attrs) (hr:rightA a=true):PCon prog 251 [.iptr true (cellsRu r),.iptr true (cellsA fr a)] (.bool (sysB r a)):=by
 obtain⟨h1,h2,h3,_⟩:=few_of_right hr
 refine callV_of (fn:=Go.Proofs.Tryz.f251) (body:=_) tab_ok mixed rfl rfl (by decide) (by simp[Go.Proofs.Tryz.f251]) ?_
 conv=>whnf
 cases h:((r.sys.toNat:Int) == 0)with
 | true=>
  conv=>whnf
  exact(Ends.pure [] (by repeat' (first|exact True.intro|exact .bool_of (by rw[u32_eq]at h;simp[sysB,h])|exact .A|exact LeL.fr rfl|exact LeV.nineA|exact LeV.noA|refine .tupL ?_|refine .aggL ?_|refine⟨?_,?_⟩)) (by simp))
 | false=>
  conv=>whnf
  refine callV_pure (has_ok fr a r.sys (by omega) (fun p hp=>by have:=h2 p hp;omega) (by omega)) ⟨.free (encA_free _ _),.free .int,trivial⟩ ?_
  conv=>whnf
  exact(Ends.pure [] (by repeat' (first|exact True.intro|exact .bool_of (by rw[u32_eq]at h;simp[sysB,h])|exact .A|exact LeL.fr rfl|exact LeV.nineA|exact LeV.noA|refine .tupL ?_|refine .aggL ?_|refine⟨?_,?_⟩)) (by simp))
theorem fits_ok (fr:Bool) (r:Rule) (p:Prefix) (a:Attrs):PCon prog 203 [encRu r,encP p,encA fr a] (.bool (fits r p a)):=by
 refine callV_of (fn:=Go.Proofs.Tryz.f203) (body:=_) tab_ok mixed rfl rfl (by decide) (by simp[Go.Proofs.Tryz.f203]) ?_
 conv=>whnf
 refine callV_pure (asks_ok fr r p a) ⟨.free (encRu_free _),.free (encP_free _),.free (encA_free _ _),trivial⟩ ?_
 conv=>whnf
 intro _
 conv=>whnf
 refine vcg_loop tab_ok mixed (fun i:{i:Nat // i≤6∧∀k,k < i→askB r p a k=true}=>⟨[(7,.bool true),(13,asksV fr r p a),(14,.int .i64 6),(15,cI i.1)],[],0⟩) (fun i=>6 - i.1) ⟨0,by omega,fun k hk=>by omega⟩ (Wk.i (by repeat' (first|exact LHa|exact .A|exact LeL.fr rfl|exact LeV.nineA|exact LeV.noA|exact LHb|refine Or.inl ⟨by simp,_,rfl,?_⟩|exact Or.inr ⟨by simp,_,_,_,_,rfl⟩|refine⟨rfl,rfl,rfl,rfl,rfl,rfl,?_⟩|refine⟨?_,?_⟩)) (by omega)) (fun i=>?_)
 obtain⟨i,hi,hall⟩:=i
 have hi':i=0∨i=1∨i=2∨i=3∨i=4∨i=5∨i=6:=by omega
 rcases hi' with rfl|rfl|rfl|rfl|rfl|rfl|rfl
 ·
  conv=>whnf
  refine⟨rfl,_,⟨by simp,rfl⟩,?_⟩
  conv=>whnf
  refine callV_pure (ask1_ok fr r) ⟨.free (.iptr (cellsRu_free _)),trivial⟩ ?_
  conv=>whnf
  cases hb:askB r p a 0 with
  | true=>
   have hb':=hb
   simp only[askB]at hb'
   rw[hb']
   conv=>whnf
   exact⟨⟨0 + 1,by omega,fun k hk=>by rcases Nat.lt_or_ge k 0 with h1|h1;exact hall k h1;obtain rfl:k=0:=(by omega);exact hb⟩,(Wk.i (by repeat' (first|exact LHa|exact .int_of (by decide)|exact .A|exact LeL.fr rfl|exact LeV.nineA|exact LeV.noA|exact LHb|refine Or.inl ⟨by simp,_,rfl,?_⟩|exact Or.inr ⟨by simp,_,_,_,_,rfl⟩|refine⟨rfl,rfl,rfl,rfl,rfl,rfl,?_⟩|refine⟨?_,?_⟩)) (by omega)),by simp only;omega⟩
  | false=>
   have hb':=hb
   simp only[askB]at hb'
   rw[hb']
   conv=>whnf
   exact(Ends.pure [] (by repeat' (first|exact True.intro|exact .bool_of (fits_not (k:=0) (by omega) hb).symm|exact .A|exact LeL.fr rfl|exact LeV.nineA|exact LeV.noA|refine .tupL ?_|refine .aggL ?_|refine⟨?_,?_⟩)) (by simp))
 ·
  conv=>whnf
  refine⟨rfl,_,⟨by simp,rfl⟩,?_⟩
  conv=>whnf
  refine callV_pure (ask2_ok fr p a) ⟨.free (.iptr (cellsP_free _)),.free (.iptr (cellsA_free _ _)),trivial⟩ ?_
  conv=>whnf
  cases hb:askB r p a 1 with
  | true=>
   have hb':=hb
   simp only[askB]at hb'
   rw[hb']
   conv=>whnf
   exact⟨⟨1 + 1,by omega,fun k hk=>by rcases Nat.lt_or_ge k 1 with h1|h1;exact hall k h1;obtain rfl:k=1:=(by omega);exact hb⟩,(Wk.i (by repeat' (first|exact LHa|exact .int_of (by decide)|exact .A|exact LeL.fr rfl|exact LeV.nineA|exact LeV.noA|exact LHb|refine Or.inl ⟨by simp,_,rfl,?_⟩|exact Or.inr ⟨by simp,_,_,_,_,rfl⟩|refine⟨rfl,rfl,rfl,rfl,rfl,rfl,?_⟩|refine⟨?_,?_⟩)) (by omega)),by simp only;omega⟩
  | false=>
   have hb':=hb
   simp only[askB]at hb'
   rw[hb']
   conv=>whnf
   exact(Ends.pure [] (by repeat' (first|exact True.intro|exact .bool_of (fits_not (k:=1) (by omega) hb).symm|exact .A|exact LeL.fr rfl|exact LeV.nineA|exact LeV.noA|refine .tupL ?_|refine .aggL ?_|refine⟨?_,?_⟩)) (by simp))
 ·
  conv=>whnf
  refine⟨rfl,_,⟨by simp,rfl⟩,?_⟩
  conv=>whnf
  refine callV_pure (ask3_ok r p) ⟨.free (.iptr (cellsRu_free _)),.free (.iptr (cellsP_free _)),trivial⟩ ?_
  conv=>whnf
  cases hb:askB r p a 2 with
  | true=>
   have hb':=hb
   simp only[askB]at hb'
   rw[hb']
   conv=>whnf
   exact⟨⟨2 + 1,by omega,fun k hk=>by rcases Nat.lt_or_ge k 2 with h1|h1;exact hall k h1;obtain rfl:k=2:=(by omega);exact hb⟩,(Wk.i (by repeat' (first|exact LHa|exact .int_of (by decide)|exact .A|exact LeL.fr rfl|exact LeV.nineA|exact LeV.noA|exact LHb|refine Or.inl ⟨by simp,_,rfl,?_⟩|exact Or.inr ⟨by simp,_,_,_,_,rfl⟩|refine⟨rfl,rfl,rfl,rfl,rfl,rfl,?_⟩|refine⟨?_,?_⟩)) (by omega)),by simp only;omega⟩
  | false=>
   have hb':=hb
   simp only[askB]at hb'
   rw[hb']
   conv=>whnf
   exact(Ends.pure [] (by repeat' (first|exact True.intro|exact .bool_of (fits_not (k:=2) (by omega) hb).symm|exact .A|exact LeL.fr rfl|exact LeV.nineA|exact LeV.noA|refine .tupL ?_|refine .aggL ?_|refine⟨?_,?_⟩)) (by simp))
 ·
  conv=>whnf
  refine⟨rfl,_,⟨by simp,rfl⟩,?_⟩
  conv=>whnf
  refine callV_pure (ask4_ok r p) ⟨.free (.iptr (cellsRu_free _)),.free (.iptr (cellsP_free _)),trivial⟩ ?_
  conv=>whnf
  cases hb:askB r p a 3 with
  | true=>
   have hb':=hb
   simp only[askB]at hb'
   rw[hb']
   conv=>whnf
   exact⟨⟨3 + 1,by omega,fun k hk=>by rcases Nat.lt_or_ge k 3 with h1|h1;exact hall k h1;obtain rfl:k=3:=(by omega);exact hb⟩,(Wk.i (by repeat' (first|exact LHa|exact .int_of (by decide)|exact .A|exact LeL.fr rfl|exact LeV.nineA|exact LeV.noA|exact LHb|refine Or.inl ⟨by simp,_,rfl,?_⟩|exact Or.inr ⟨by simp,_,_,_,_,rfl⟩|refine⟨rfl,rfl,rfl,rfl,rfl,rfl,?_⟩|refine⟨?_,?_⟩)) (by omega)),by simp only;omega⟩
  | false=>
   have hb':=hb
   simp only[askB]at hb'
   rw[hb']
   conv=>whnf
   exact(Ends.pure [] (by repeat' (first|exact True.intro|exact .bool_of (fits_not (k:=3) (by omega) hb).symm|exact .A|exact LeL.fr rfl|exact LeV.nineA|exact LeV.noA|refine .tupL ?_|refine .aggL ?_|refine⟨?_,?_⟩)) (by simp))
 ·
  conv=>whnf
  refine⟨rfl,_,⟨by simp,rfl⟩,?_⟩
  conv=>whnf
  refine callV_pure (ask5_ok fr r a) ⟨.free (.iptr (cellsRu_free _)),.free (.iptr (cellsA_free _ _)),trivial⟩ ?_
  conv=>whnf
  cases hb:askB r p a 4 with
  | true=>
   have hb':=hb
   simp only[askB]at hb'
   rw[hb']
   conv=>whnf
   exact⟨⟨4 + 1,by omega,fun k hk=>by rcases Nat.lt_or_ge k 4 with h1|h1;exact hall k h1;obtain rfl:k=4:=(by omega);exact hb⟩,(Wk.i (by repeat' (first|exact LHa|exact .int_of (by decide)|exact .A|exact LeL.fr rfl|exact LeV.nineA|exact LeV.noA|exact LHb|refine Or.inl ⟨by simp,_,rfl,?_⟩|exact Or.inr ⟨by simp,_,_,_,_,rfl⟩|refine⟨rfl,rfl,rfl,rfl,rfl,rfl,?_⟩|refine⟨?_,?_⟩)) (by omega)),by simp only;omega⟩
  | false=>
   have hb':=hb
   simp only[askB]at hb'
   rw[hb']
   conv=>whnf
   exact(Ends.pure [] (by repeat' (first|exact True.intro|exact .bool_of (fits_not (k:=4) (by omega) hb).symm|exact .A|exact LeL.fr rfl|exact LeV.nineA|exact LeV.noA|refine .tupL ?_|refine .aggL ?_|refine⟨?_,?_⟩)) (by simp))
 ·have hr:rightA a=true:=by have:=hall 1 (by omega);simp only[askB,Bool.and_eq_true]at this;exact this.2
  conv=>whnf
  refine⟨rfl,_,⟨by simp,rfl⟩,?_⟩
  conv=>whnf
  refine callV_pure (ask6_ok fr r a hr) ⟨.free (.iptr (cellsRu_free _)),.free (.iptr (cellsA_free _ _)),trivial⟩ ?_
  conv=>whnf
  cases hb:askB r p a 5 with
  | true=>
   have hb':=hb
   simp only[askB]at hb'
   rw[hb']
   conv=>whnf
   exact⟨⟨5 + 1,by omega,fun k hk=>by rcases Nat.lt_or_ge k 5 with h1|h1;exact hall k h1;obtain rfl:k=5:=(by omega);exact hb⟩,(Wk.i (by repeat' (first|exact LHa|exact .int_of (by decide)|exact .A|exact LeL.fr rfl|exact LeV.nineA|exact LeV.noA|exact LHb|refine Or.inl ⟨by simp,_,rfl,?_⟩|exact Or.inr ⟨by simp,_,_,_,_,rfl⟩|refine⟨rfl,rfl,rfl,rfl,rfl,rfl,?_⟩|refine⟨?_,?_⟩)) (by omega)),by simp only;omega⟩
  | false=>
   have hb':=hb
   simp only[askB]at hb'
   rw[hb']
   conv=>whnf
   exact(Ends.pure [] (by repeat' (first|exact True.intro|exact .bool_of (fits_not (k:=5) (by omega) hb).symm|exact .A|exact LeL.fr rfl|exact LeV.nineA|exact LeV.noA|refine .tupL ?_|refine .aggL ?_|refine⟨?_,?_⟩)) (by simp))
 ·conv=>whnf
  exact(Ends.pure [] (by repeat' (first|exact True.intro|exact .bool_of (fits_all hall).symm|exact .A|exact LeL.fr rfl|exact LeV.nineA|exact LeV.noA|refine .tupL ?_|refine .aggL ?_|refine⟨?_,?_⟩)) (by simp))
end
section
open Go.Proofs.Tryz (prog)
attribute [local irreducible] CallV RoundV
theorem rfits_ok (fr:Bool) (r:Rule) (p:Prefix) (a:Attrs):PCon prog 167 [encRu r,encP p,encA fr a] (.bool (fits r p a)):=by
 have no:∀{s:St},fits r p a=false→∃v1 h' nx',Ends 0 s (.bool false) v1 h' nx'∧(v1=.bool (fits r p a)∧h'=[]∧nx'=0):=fun h=>Ends.pure [] (.bool_of h.symm) (by simp)
 refine callV_of (fn:=Go.Proofs.Tryz.f167) (body:=_) tab_ok mixed rfl rfl (by decide) (by simp[Go.Proofs.Tryz.f167]) ?_
 conv=>whnf
 refine callV_pure (rule23_ok r) ⟨.free (encRu_free _),trivial⟩ ?_
 cases h0:ruleOk r with
 | false=>
  conv=>whnf
  exact no (by simp[fits,h0])
 | true=>
 conv=>whnf
 refine callV_pure (rRight_ok p) ⟨.free (encP_free _),trivial⟩ ?_
 cases h1:prefOk p with
 | false=>
  conv=>whnf
  exact no (by simp[fits,h1])
 | true=>
 conv=>whnf
 refine callV_pure (right_ok fr a) ⟨.free (encA_free _ _),trivial⟩ ?_
 cases h2:rightA a with
 | false=>
  conv=>whnf
  exact no (by simp[fits,h2])
 | true=>
 conv=>whnf
 refine callV_pure (rCovers_ok r.cover p) ⟨.free (encP_free _),.free (encP_free _),trivial⟩ ?_
 cases h3:coversP r.cover p with
 | false=>
  conv=>whnf
  exact no (by simp[fits,h3])
 | true=>
 conv=>whnf
 cases h4:decide ((p.len.toNat:Int) < (r.least.toNat:Int))with
 | true=>
  have h4':lenB r p=false:=by simp at h4;simp[lenB];omega
  conv=>whnf
  exact no (by simp[fits,h4'])
 | false=>
 conv=>whnf
 cases h5:decide ((r.most.toNat:Int) < (p.len.toNat:Int))with
 | true=>
  have h5':lenB r p=false:=by simp at h5;simp[lenB];omega
  conv=>whnf
  exact no (by simp[fits,h5'])
 | false=>
 have hl:lenB r p=true:=by simp at h4 h5;simp[lenB];omega
 obtain⟨q1,q2,q3,_⟩:=few_of_right h2
 have fin:∀{b:Bool},tagB r a=true→b=sysB r a→b=fits r p a:=fun ht hb=>by simp[fits,h0,h1,h2,h3,hl,ht,hb]
 conv=>whnf
 cases h6:r.hasTag
 case' true=>
  conv=>whnf
  refine vcg_loop tab_ok mixed (fun k:{k:Nat // k≤a.tags.length}=>⟨[(3,.ptr 0 0),(4,.ptr 1 0),(5,.ptr 2 0),(7,.bool (hasN (a.tags.take k.1) r.tag)),(8,cI k.1)],[(0,some (.var true 132 (cellsRu r))),(1,some (.var true 31 (cellsP p))),(2,some (.var true 35 (cellsA fr a)))],3⟩) (fun k=>a.tags.length - k.1) ⟨0,by omega⟩ (Wk.i (by repeat' (first|exact LHa|exact .A|exact LeL.fr rfl|exact LeV.nineA|exact LeV.noA|exact LHb|refine Or.inl ⟨by simp,_,rfl,?_⟩|exact Or.inr ⟨by simp,_,_,_,_,rfl⟩|refine⟨rfl,rfl,rfl,rfl,rfl,rfl,?_⟩|refine⟨?_,?_⟩)) (by omega)) (fun k=>?_)
  obtain⟨k,hk⟩:=k
  conv=>whnf
  intro _
  conv=>whnf
  split
  case' h_1 hc=>
   have hc:k < a.tags.length:=by simpa using hc
   have hs:=hasN_take_succ r.tag hc
   conv=>whnf
   cases hh:hasN (a.tags.take k) r.tag with
   | true=>
    conv=>whnf
    refine⟨by kernel_rfl,?_⟩
    conv=>whnf
    exact⟨⟨k + 1,by omega⟩,(Wk.i (by repeat' (first|exact LHa|exact .bool_of (by rw[hs,hh];rfl)|exact .int_of (wrap64_succ hc (show a.tags.length≤maxLen by unfold maxLen;omega))|exact .A|exact LeL.fr rfl|exact LeV.nineA|exact LeV.noA|exact LHb|refine Or.inl ⟨by simp,_,rfl,?_⟩|exact Or.inr ⟨by simp,_,_,_,_,rfl⟩|refine⟨rfl,rfl,rfl,rfl,rfl,rfl,?_⟩|refine⟨?_,?_⟩)) (by omega)),by simp only;omega⟩
   | false=>
    conv=>whnf
    refine ixK (idxW hc) ?_
    conv=>whnf
    refine⟨by kernel_rfl,?_⟩
    conv=>whnf
    exact⟨⟨k + 1,by omega⟩,(Wk.i (by repeat' (first|exact LHa|exact .bool_of (by rw[hs,hh,w_eq];rfl)|exact .int_of (wrap64_succ hc (show a.tags.length≤maxLen by unfold maxLen;omega))|exact .A|exact LeL.fr rfl|exact LeV.nineA|exact LeV.noA|exact LHb|refine Or.inl ⟨by simp,_,rfl,?_⟩|exact Or.inr ⟨by simp,_,_,_,_,rfl⟩|refine⟨rfl,rfl,rfl,rfl,rfl,rfl,?_⟩|refine⟨?_,?_⟩)) (by omega)),by simp only;omega⟩
  case' h_2 hc=>
   have hc:k=a.tags.length:=by simp at hc;omega
   subst hc
   have htg:hasN (a.tags.take a.tags.length) r.tag=a.tags.contains r.tag:=by
    rw[List.take_length,List.contains_eq_any_beq,hasN]
    congr 1
    funext y
    exact BEq.comm
   conv=>whnf
   rw[htg]
   cases ht:a.tags.contains r.tag with
   | false=>
    conv=>whnf
    exact no (by simp only[fits,tagB,h6,ht];simp)
   | true=>?_
 all_goals
  have htg:tagB r a=true:=by first|(rw[tagB,h6];rfl)|(rw[tagB,h6,ht];rfl)
  conv=>whnf
  cases h7:((r.sys.toNat:Int) == 0)with
  | true=>
   conv=>whnf
   exact(Ends.pure [] (by repeat' (first|exact True.intro|exact .bool_of (fin htg (by rw[u32_eq]at h7;simp[sysB,h7]))|exact .A|exact LeL.fr rfl|exact LeV.nineA|exact LeV.noA|refine .tupL ?_|refine .aggL ?_|refine⟨?_,?_⟩)) (by simp))
  | false=>
   conv=>whnf
   refine callV_pure (ref_has_ok fr a r.sys (by omega) (fun p hp=>by have:=q2 p hp;omega)) ⟨.free (encA_free _ _),.free .int,trivial⟩ ?_
   conv=>whnf
   exact(Ends.pure [] (by repeat' (first|exact True.intro|exact .bool_of (fin htg (by rw[u32_eq]at h7;simp[sysB,h7]))|exact .A|exact LeL.fr rfl|exact LeV.nineA|exact LeV.noA|refine .tupL ?_|refine .aggL ?_|refine⟨?_,?_⟩)) (by simp))
def whichP (p:Policy) (to:Prefix) (a:Attrs):Int:=if p.rules.any (fun r=>fits r to a)then(p.rules.findIdx (fun r=>fits r to a):Nat)else -1
theorem which_at {p:Policy} {to:Prefix} {a:Attrs} {i:Nat} (hi:i < p.rules.length) (hno:∀r∈p.rules.take i,fits r to a=false) (h:fits p.rules[i] to a=true):whichP p to a=i:=by
 unfold whichP
 rw[if_pos (List.any_eq_true.2 ⟨p.rules[i],List.getElem_mem hi,h⟩)]
 congr 1
 rw[List.findIdx_eq hi]
 refine⟨h,fun j hj=>?_⟩
 exact hno _ (List.mem_take_iff_getElem.2 ⟨j,by omega,rfl⟩)
theorem which_none {p:Policy} {to:Prefix} {a:Attrs} (hno:∀r∈p.rules,fits r to a=false):whichP p to a=-1:=by
 unfold whichP
 rw[if_neg]
 rw[Bool.not_eq_true,List.any_eq_false]
 intro r hr
 simp[hno r hr]
theorem nofit_succ {l:List Rule} {to:Prefix} {a:Attrs} {i:Nat} (hi:i < l.length) (hno:∀r∈l.take i,fits r to a=false) (h:fits l[i] to a=false):∀r∈l.take (i + 1),fits r to a=false:=by
 intro r hr
 rw[List.take_succ_eq_append_getElem hi]at hr
 rcases List.mem_append.1 hr with h1|h1
 ·exact hno r h1
 ·simp at h1;subst h1;exact h
theorem rwhich_ok (fr fr':Bool) (p:Policy) (to:Prefix) (a:Attrs):PCon prog 132 [encPo fr p,encP to,encA fr' a] (.int .i64 (whichP p to a)):=by
 refine callV_of (fn:=Go.Proofs.Tryz.f132) (body:=_) tab_ok mixed rfl rfl (by decide) (by simp[Go.Proofs.Tryz.f132]) ?_
 conv=>whnf
 refine vcg_loop tab_ok mixed (fun i:{i:Nat // i≤p.rules.length∧∀r∈p.rules.take i,fits r to a=false}=>⟨[(3,.ptr 0 0),(4,.ptr 1 0),(5,.ptr 2 0),(7,cI i.1)],[(0,some (.var true 29 (cellsPo fr p))),(1,some (.var true 31 (cellsP to))),(2,some (.var true 35 (cellsA fr' a)))],3⟩) (fun i=>p.rules.length - i.1) ⟨0,by omega,by simp⟩ (Wk.i (by repeat' (first|exact LHa|exact .A|exact LeL.fr rfl|exact LeV.nineA|exact LeV.noA|exact LHb|refine Or.inl ⟨by simp,_,rfl,?_⟩|exact Or.inr ⟨by simp,_,_,_,_,rfl⟩|refine⟨rfl,rfl,rfl,rfl,rfl,rfl,?_⟩|refine⟨?_,?_⟩)) (by omega)) (fun i=>?_)
 obtain⟨i,hi,hno⟩:=i
 conv=>whnf
 intro hl
 have hl:p.rules.length≤maxLen:=by simpa[gd]using hl
 conv=>whnf
 split
 ·rename_i hc
  have hc:i < p.rules.length:=by simpa using hc
  conv=>whnf
  refine ixK (idxRu hc) ?_
  conv=>whnf
  have hR:=rfits_ok fr' (p.rules[i]'hc) to a
  refine⟨_,[],fun h nx _=>pureV_pure hR ⟨.free (encRu_free _),.free (encP_free _),.free (encA_free _ _),trivial⟩,by simp,?_⟩
  conv=>whnf
  refine⟨by kernel_rfl,?_⟩
  conv=>whnf
  cases hf:fits p.rules[i] to a with
  | true=>
   conv=>whnf
   exact(Ends.pure [] (by repeat' (first|exact True.intro|exact .int_of (which_at hc hno hf).symm|exact .A|exact LeL.fr rfl|exact LeV.nineA|exact LeV.noA|refine .tupL ?_|refine .aggL ?_|refine⟨?_,?_⟩)) (by simp))
  | false=>
   conv=>whnf
   exact⟨⟨i + 1,by omega,nofit_succ hc hno hf⟩,(Wk.i (by repeat' (first|exact LHa|exact .int_of (wrap64_succ hc hl)|exact .A|exact LeL.fr rfl|exact LeV.nineA|exact LeV.noA|exact LHb|refine Or.inl ⟨by simp,_,rfl,?_⟩|exact Or.inr ⟨by simp,_,_,_,_,rfl⟩|refine⟨rfl,rfl,rfl,rfl,rfl,rfl,?_⟩|refine⟨?_,?_⟩)) (by omega)),by simp only;omega⟩
 ·rename_i hc
  have hc:i=p.rules.length:=by simp at hc;omega
  subst hc
  rw[List.take_length]at hno
  conv=>whnf
  exact(Ends.pure [] (by repeat' (first|exact True.intro|exact .int_of (which_none hno).symm|exact .A|exact LeL.fr rfl|exact LeV.nineA|exact LeV.noA|refine .tupL ?_|refine .aggL ?_|refine⟨?_,?_⟩)) (by simp))
theorem fitting_ok (fr fr':Bool) (p:Policy) (to:Prefix) (a:Attrs):PCon prog 159 [encPo fr p,encP to,encA fr' a] (.fn (.func 202) [] [.iptr true (cellsPo fr p),.iptr true (cellsP to),.iptr true (cellsA fr' a)]):=by
 refine callV_of (fn:=Go.Proofs.Tryz.f159) (body:=_) tab_ok mixed rfl rfl (by decide) (by simp[Go.Proofs.Tryz.f159]) ?_
 conv=>whnf
 exact Ends.pure [0,1,2] (.fnL trivial ⟨.fzP (by simp) rfl (cellsPo_free fr p),.fzP (by simp) rfl (cellsP_free to),.fzP (by simp) rfl (cellsA_free fr' a),trivial⟩) (by intro z hz;simp only[List.mem_cons,List.not_mem_nil,or_false]at hz;rcases hz with rfl|rfl|rfl<;>exact ne_none_of rfl)
theorem which_ok (fr fr':Bool) (p:Policy) (to:Prefix) (a:Attrs):PCon prog 120 [encPo fr p,encP to,encA fr' a] (.int .i64 (whichP p to a)):=by
 refine callV_of (fn:=Go.Proofs.Tryz.f120) (body:=_) tab_ok mixed rfl rfl (by decide) (by simp[Go.Proofs.Tryz.f120]) ?_
 conv=>whnf
 refine callV_pure (fitting_ok fr fr' p to a) ⟨.free (encPo_free _ _),.free (encP_free _),.free (encA_free _ _),trivial⟩ ?_
 conv=>whnf
 refine callV_loop [(6,.ptr 3 0)] ⟨rfl,trivial⟩ fun asg' body' hasg hbody=>?_
 refine callV_of (fn:=Go.Proofs.Tryz.f202) (body:=_) tab_ok mixed rfl rfl (by decide) (by simp[Go.Proofs.Tryz.f202]) ?_
 conv=>whnf
 intro hl
 have hl:p.rules.length≤maxLen:=by simpa[gd]using hl
 conv=>whnf
 refine vcg_loop tab_ok mixed (fun i:{i:Nat // i≤p.rules.length∧∀r∈p.rules.take i,fits r to a=false}=>⟨[(0,.yld 4),(2,.iptr true (cellsP to)),(3,.iptr true (cellsA fr' a)),(8,encRus fr p.rules),(9,cI p.rules.length),(10,cI i.1)],[(4,some (.loop 14 [(6,.ptr 3 0)] [12] asg' body' .ready none)),(3,some (.var true 3 [.int .i64 0]))],5⟩) (fun i=>p.rules.length - i.1) ⟨0,by omega,by simp⟩ (Wk.i (by repeat' (first|exact LHa|exact .free (.iptr (cellsP_free _))|exact .free (.iptr (cellsA_free _ _))|exact .int_of (by simp)|exact .A|exact LeL.fr rfl|exact LeV.nineA|exact LeV.noA|exact LHb|refine Or.inl ⟨by simp,_,rfl,?_⟩|exact Or.inr ⟨by simp,_,_,_,_,rfl⟩|refine⟨rfl,rfl,rfl,rfl,rfl,rfl,?_⟩|refine⟨?_,?_⟩)) (by omega)) (fun i=>?_)
 obtain⟨i,hi,hno⟩:=i
 conv=>whnf
 split
 ·rename_i hc
  have hc:i < p.rules.length:=by simpa using hc
  conv=>whnf
  refine ixK (idxRu hc) ?_
  conv=>whnf
  refine callV_pure (fits_ok fr' (p.rules[i]'hc) to a) ⟨.free (encRu_free _),.free (encP_free _),.free (encA_free _ _),trivial⟩ ?_
  cases hf:fits p.rules[i] to a with
  | true=>
   conv=>whnf
   subst hasg hbody
   refine roundV_of tab_ok mixed rfl (by simp) (show 4 < 6 by omega) ?_
   conv=>whnf
   refine⟨rfl,?_⟩
   conv=>whnf
   refine⟨rfl,?_⟩
   conv=>whnf
   refine⟨_,_,_,Ends.here,?_⟩
   conv=>whnf
   exact(Ends.pure [] (by repeat' (first|exact True.intro|exact .int_of (which_at hc hno hf).symm|exact .A|exact LeL.fr rfl|exact LeV.nineA|exact LeV.noA|refine .tupL ?_|refine .aggL ?_|refine⟨?_,?_⟩)) (by simp))
  | false=>
   conv=>whnf
   exact⟨⟨i + 1,by omega,nofit_succ hc hno hf⟩,(Wk.i (by repeat' (first|exact LHa|exact .free (.iptr (cellsP_free _))|exact .free (.iptr (cellsA_free _ _))|exact .int_of (wrap64_succ hc hl)|exact .A|exact LeL.fr rfl|exact LeV.nineA|exact LeV.noA|exact LHb|refine Or.inl ⟨by simp,_,rfl,?_⟩|exact Or.inr ⟨by simp,_,_,_,_,rfl⟩|refine⟨rfl,rfl,rfl,rfl,rfl,rfl,?_⟩|refine⟨?_,?_⟩)) (by omega)),by simp only;omega⟩
 ·rename_i hc
  have hc:i=p.rules.length:=by simp at hc;omega
  subst hc
  rw[List.take_length]at hno
  conv=>whnf
  refine⟨_,_,_,Ends.here,?_⟩
  conv=>whnf
  exact(Ends.pure [] (by repeat' (first|exact True.intro|exact .int_of (which_none hno).symm|exact .A|exact LeL.fr rfl|exact LeV.nineA|exact LeV.noA|refine .tupL ?_|refine .aggL ?_|refine⟨?_,?_⟩)) (by simp))
end
end Go.Proofs.YteogfjpaljbkoaaGreat
