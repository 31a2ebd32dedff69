/- Joined: B16, B17, B18, M1, M2, I1, I2, I3, I4, I5, I6, I7, I8, I9, I10, I11, I12, I13, I14, I16, I18, I19, I21, I22, N1, N2, I29, I30, I24, I25, I28, RP0, I35, I36, VZE, O1, O2, O3, O4, O5. -/
import Derived.Test.YteogfjpaljbkoaaGreatKH4
import Derived.Test.YteogfjpaljbkoaaGreatKH3
import Derived.Test.YteogfjpaljbkoaaGreatKH2
set_option linter.unusedVariables false
set_option linter.unusedSimpArgs false
set_option maxRecDepth 100000
set_option maxHeartbeats 16000000
namespace Go.Proofs.YteogfjpaljbkoaaGreat
open Go.RowKit
section
open Go.Proofs.Tryz (prog)
attribute [local irreducible] CallV RoundV aggK
abbrev rowsC (ls:List (List UInt8)):List (List V):=ls.map fun l=>[encB false l]
def catV (fr:Bool) (ls:List (List UInt8)):V:=.sl fr 1 (rowsC ls)
theorem rowsC_all (ls:List (List UInt8)):∀x∈rowsC ls,∀v∈x,Free v∧Cold v:=by
 intro x hx v hv
 obtain⟨l,_,rfl⟩:=List.mem_map.1 hx
 simp at hv;subst hv;exact⟨encB_free _ _,encB_cold _⟩
theorem catV_free (fr:Bool) (ls:List (List UInt8)):Free (catV fr ls):=.sl fun x hx v hv=>(rowsC_all ls x hx v hv).1
theorem catV_cold (ls:List (List UInt8)):Cold (catV false ls):=.sl fun x hx v hv=>(rowsC_all ls x hx v hv).2
instance {fr ls}:FreeI (catV fr ls):=⟨⟨catV_free fr ls⟩⟩
theorem idxC {ls:List (List UInt8)} {i:Nat} (h:i < ls.length):(rowsC ls)[(i:Int).toNat]? = some [encB false ls[i]]:=by simp[rowsC,h]
theorem flat_succ {α:Type} {ls:List (List α)} {i:Nat} (h:i < ls.length):(ls.take (i + 1)).flatten=(ls.take i).flatten ++ ls[i]:=by
 rw[List.take_succ_eq_append_getElem h,List.flatten_append];simp
theorem flat_le {α:Type} (ls:List (List α)) (i:Nat):(ls.take i).flatten.length≤ls.flatten.length:=by
 conv=>rhs;rw[← List.take_append_drop i ls,List.flatten_append,List.length_append]
 omega
structure Cat (ls:List (List UInt8)) where
 i:Nat
 rows:List (List V)
 le:i≤ls.length
 free:∀x∈rows,∀v∈x,Free v
 len:(ls.take i).flatten.length≤rows.length
 eq:rows.take (ls.take i).flatten.length=rowsB (ls.take i).flatten
theorem zeros8_free (n:Nat):∀r∈List.replicate n [V.int .u8 0],∀v∈r,Free v:=by
 intro r hr v hv
 rw[List.eq_of_mem_replicate hr]at hv;simp at hv;subst hv;exact .int
theorem concatB_ok (ls:List (List UInt8)) (hl:ls.length≤1000) (hs:ls.flatten.length≤1000000):PCon prog 115 [catV false ls] (encB true ls.flatten):=by
 have hf:=flat_le ls
 refine callV_of (fn:=Go.Proofs.Tryz.f115) (body:=_) tab_ok mixed rfl rfl (by decide) (by simp[Go.Proofs.Tryz.f115]) ?_
 conv=>whnf
 intro _
 conv=>whnf
 refine vcg_loop tab_ok mixed (fun i:{i:Nat // i≤ls.length}=>⟨[(0,catV false ls),(3,cI (ls.take i.1).flatten.length),(9,catV false ls),(10,cI ls.length),(11,cI i.1)],[],0⟩) (fun i=>ls.length - i.1) ⟨0,by omega⟩ (Wk.i (by repeat' (first|exact LHa|exact .int_of (by simp)|exact .int_of rfl|exact .A|exact LeL.fr rfl|exact LHb|refine Or.inl ⟨by simp,_,rfl,?_⟩|exact Or.inr ⟨by simp,_,_,_,_,rfl⟩|refine⟨rfl,rfl,rfl,rfl,rfl,rfl,?_⟩|refine⟨?_,?_⟩)) (by omega)) (fun i=>?_)
 obtain⟨i,hi⟩:=i
 have hfi:=hf i
 conv=>whnf
 split
 ·rename_i hc
  have hc:i < ls.length:=by simpa using hc
  have hn:(ls.take (i + 1)).flatten.length=(ls.take i).flatten.length + ls[i].length:=by rw[flat_succ hc,List.length_append]
  have hf1:=hf (i + 1)
  have hw:IntKind.i64.wrap (((ls.take i).flatten.length:Int)+ ((List.map (fun x=>[V.int .u8 x.toNat]) ls[i]).length:Nat))=((ls.take (i + 1)).flatten.length:Nat):=by
   rw[List.length_map,hn,wrap64 (by omega) (by omega)];omega
  conv=>whnf
  refine ixK (idxC hc) ?_
  conv=>whnf
  intro _
  conv=>whnf
  split
  ·rename_i h
   exfalso
   rw[hw]at h
   simp at h
   omega
  conv=>whnf
  exact⟨⟨i + 1,by omega⟩,(Wk.i (by repeat' (first|exact LHa|exact .int_of hw|exact .int_of (wrap64_succ hc (by unfold maxLen;omega))|exact .A|exact LeL.fr rfl|exact LHb|refine Or.inl ⟨by simp,_,rfl,?_⟩|exact Or.inr ⟨by simp,_,_,_,_,rfl⟩|refine⟨rfl,rfl,rfl,rfl,rfl,rfl,?_⟩|refine⟨?_,?_⟩)) (by omega)),by simp only;omega⟩
 rename_i hc
 have hc:i=ls.length:=by simp at hc;omega
 subst hc
 simp only[List.take_length]
 conv=>whnf
 refine callV_of (fn:=Go.Proofs.Tryz.f157) (body:=_) tab_ok mixed rfl rfl (by decide) (by simp[Go.Proofs.Tryz.f157]) ?_
 conv=>whnf
 have hn:IntKind.i64.wrap ((ls.flatten.length:Int) - IntKind.i64.wrap (0 - 0))=(ls.flatten.length:Nat):=by
  rw[show IntKind.i64.wrap (0 - 0)=0 by decide,wrap64 (by omega) (by omega)];omega
 split
 ·rename_i hg
  conv=>whnf
  refine⟨⟨trivial,by simp,rfl,rfl⟩,?_⟩
  conv=>whnf
  refine⟨by rw[hn];exact⟨by decide,by omega,by simp only[Int.toNat_natCast];show _ * 1≤_;omega,by simp only[Int.toNat_natCast];omega⟩,?_⟩
  conv=>whnf
  refine⟨rfl,.own,⟨trivial,by simp,by simp,by simp⟩,?_⟩
  conv=>whnf
  refine⟨_,_,_,Ends.here,?_⟩
  conv=>whnf
  intro _
  conv=>whnf
  refine vcg_loop tab_ok mixed (fun k:Cat ls=>⟨[(6,.osl 0 1 0 (ls.take k.i).flatten.length),(25,catV false ls),(26,cI ls.length),(27,cI k.i)],[(0,some (.arr true false 5 1 k.rows))],1⟩) (fun k=>ls.length - k.i) ⟨0,List.replicate ls.flatten.length [.int .u8 0],by omega,zeros8_free _,by simp,by simp⟩ (Wk.i (by repeat' (first|exact LHa|exact LeB.arrE (by simp only[hn,Int.toNat_natCast]) (by exact zeros8_free _) id id|exact .int_of (by simp)|exact .osl_of rfl (by omega) (by simp)|exact .A|exact LeL.fr rfl|exact LHb|refine Or.inl ⟨by simp,_,rfl,?_⟩|exact Or.inr ⟨by simp,_,_,_,_,rfl⟩|refine⟨rfl,rfl,rfl,rfl,rfl,rfl,?_⟩|refine⟨?_,?_⟩)) (by omega)) (fun k=>?_)
  obtain⟨i,rows,hi,hfr,hln,heq⟩:=k
  have hfi:=hf i
  conv=>whnf
  split
  ·rename_i hc
   have hc:i < ls.length:=by simpa using hc
   have hn':(ls.take (i + 1)).flatten.length=(ls.take i).flatten.length + ls[i].length:=by rw[flat_succ hc,List.length_append]
   have hf1:=hf (i + 1)
   conv=>whnf
   refine ixK (idxC hc) ?_
   conv=>whnf
   refine⟨⟨rfl,rfl,rfl,rfl,by decide⟩,hln,⟨by simp only[List.length_map];show _ * 1≤_;omega,by simp only[List.length_map];omega⟩,?_⟩
   conv=>whnf
   exact⟨⟨i + 1,rowsB (ls.take (i + 1)).flatten,by omega,rowsB_free _,Nat.le_of_eq (List.length_map _).symm,List.take_of_length_le (Nat.le_of_eq (List.length_map _))⟩,(Wk.all (renOf [(0,1)]) [] (by repeat' (first|exact LHa|exact .int_of (wrap64_succ hc (by unfold maxLen;omega))|exact .osl_of rfl (by omega) (by simp only[List.length_map];exact hn'.symm)|exact LeB.arrE (show List.take (ls.take i).flatten.length rows ++ rowsB ls[i]=rowsB (ls.take (i + 1)).flatten by rw[heq,flat_succ hc];simp only[rowsB,List.map_append]) (show ∀x∈List.take (ls.take i).flatten.length rows ++ rowsB ls[i],∀v∈x,Free v by rw[heq,← List.map_append];exact rowsB_free _) id id|exact .A|exact LeL.fr rfl|exact LHb|refine Or.inl ⟨by simp,_,rfl,?_⟩|exact Or.inr ⟨by simp,_,_,_,_,rfl⟩|refine⟨rfl,rfl,rfl,rfl,rfl,rfl,?_⟩|refine⟨?_,?_⟩)) (show ∀b∈([0]:List Nat),∀b'∈([0]:List Nat),(renOf [(0,1)]) b=(renOf [(0,1)]) b'→b=b' by decide) (fun _ h=>by omega) (by omega) (by simp)),by simp only;omega⟩
  ·rename_i hc
   have hc:i=ls.length:=by simp at hc;omega
   subst hc
   rw[List.take_length]at heq hln
   conv=>whnf
   exact Ends.pure [0] (LeV.freezeE (ys:=rowsB ls.flatten) (by simp) rfl (show 0 + (ls.take ls.length).flatten.length≤rows.length by rw[List.take_length,Nat.zero_add];exact hln) (show((rows.drop 0).take (ls.take ls.length).flatten.length)=_ by rw[List.drop_zero,List.take_length];exact heq) (rowsB_free _)) (one_none rfl)
 ·rename_i hg
  have h0:ls.flatten.length=0:=by have hg:=of_decide_eq_false hg;rw[hn]at hg;omega
  conv=>whnf
  refine⟨_,_,_,Ends.here,?_⟩
  conv=>whnf
  intro _
  conv=>whnf
  refine vcg_loop tab_ok mixed (fun k:Cat ls=>⟨[(6,.osl 0 1 0 (ls.take k.i).flatten.length),(25,catV false ls),(26,cI ls.length),(27,cI k.i)],[(0,some (.arr true false 5 1 k.rows))],1⟩) (fun k=>ls.length - k.i) ⟨0,[],by omega,by simp,by simp,by simp⟩ (Wk.i (by repeat' (first|exact LHa|exact LeB.fr rfl id id|exact .int_of (by simp)|exact .osl_of rfl (by omega) (by simp)|exact .A|exact LeL.fr rfl|exact LHb|refine Or.inl ⟨by simp,_,rfl,?_⟩|exact Or.inr ⟨by simp,_,_,_,_,rfl⟩|refine⟨rfl,rfl,rfl,rfl,rfl,rfl,?_⟩|refine⟨?_,?_⟩)) (by omega)) (fun k=>?_)
  obtain⟨i,rows,hi,hfr,hln,heq⟩:=k
  have hfi:=hf i
  conv=>whnf
  split
  ·rename_i hc
   have hc:i < ls.length:=by simpa using hc
   have hn':(ls.take (i + 1)).flatten.length=(ls.take i).flatten.length + ls[i].length:=by rw[flat_succ hc,List.length_append]
   have hf1:=hf (i + 1)
   conv=>whnf
   refine ixK (idxC hc) ?_
   conv=>whnf
   refine⟨⟨rfl,rfl,rfl,rfl,by decide⟩,hln,⟨by simp only[List.length_map];show _ * 1≤_;omega,by simp only[List.length_map];omega⟩,?_⟩
   conv=>whnf
   exact⟨⟨i + 1,rowsB (ls.take (i + 1)).flatten,by omega,rowsB_free _,Nat.le_of_eq (List.length_map _).symm,List.take_of_length_le (Nat.le_of_eq (List.length_map _))⟩,(Wk.all (renOf [(0,1)]) [] (by repeat' (first|exact LHa|exact .int_of (wrap64_succ hc (by unfold maxLen;omega))|exact .osl_of rfl (by omega) (by simp only[List.length_map];exact hn'.symm)|exact LeB.arrE (show List.take (ls.take i).flatten.length rows ++ rowsB ls[i]=rowsB (ls.take (i + 1)).flatten by rw[heq,flat_succ hc];simp only[rowsB,List.map_append]) (show ∀x∈List.take (ls.take i).flatten.length rows ++ rowsB ls[i],∀v∈x,Free v by rw[heq,← List.map_append];exact rowsB_free _) id id|exact .A|exact LeL.fr rfl|exact LHb|refine Or.inl ⟨by simp,_,rfl,?_⟩|exact Or.inr ⟨by simp,_,_,_,_,rfl⟩|refine⟨rfl,rfl,rfl,rfl,rfl,rfl,?_⟩|refine⟨?_,?_⟩)) (show ∀b∈([0]:List Nat),∀b'∈([0]:List Nat),(renOf [(0,1)]) b=(renOf [(0,1)]) b'→b=b' by decide) (fun _ h=>by omega) (by omega) (by simp)),by simp only;omega⟩
  ·rename_i hc
   have hc:i=ls.length:=by simp at hc;omega
   subst hc
   rw[List.take_length]at heq hln
   conv=>whnf
   exact Ends.pure [0] (LeV.freezeE (ys:=rowsB ls.flatten) (by simp) rfl (show 0 + (ls.take ls.length).flatten.length≤rows.length by rw[List.take_length,Nat.zero_add];exact hln) (show((rows.drop 0).take (ls.take ls.length).flatten.length)=_ by rw[List.drop_zero,List.take_length];exact heq) (rowsB_free _)) (one_none rfl)
end
section
open Go.Proofs.Tryz (prog)
attribute [local irreducible] CallV RoundV aggK
def gB (u:Upd):List UInt8:=prefsB u.gone
def aA (a:Attrs):List UInt8:=if rightA a then rawP a 6 else []
theorem rawA_ok (fr:Bool) (a:Attrs) (hf:fewA a=true):PCon prog 114 [encA fr a] (.tup [encB true (aA a),.int .i64 (checkA a)]):=raw_ok fr a hf
def aB (u:Upd):List UInt8:=aA u.attrs
def partsU (u:Upd):List (List UInt8):=[twoB (gB u).length,gB u,twoB (aB u).length,aB u,prefsB u.new]
def bodyB (u:Upd):List UInt8:=(partsU u).flatten
def okPs (l:List Prefix):Prop:=∀p∈l,prefOk p=true
structure Small (u:Upd):Prop where
 gone:u.gone.length≤1000
 new:u.new.length≤1000
 few:fewA u.attrs=true
theorem aB_len {u:Upd} (h:fewA u.attrs=true):(aB u).length≤20000:=by
 unfold aB aA
 split
 ·have:=rawA_len h
  rw[rawP_eq];exact this
 ·simp
theorem gB_len {u:Upd} (h:u.gone.length≤1000):(gB u).length≤5000:=by
 have:=prefsB_len u.gone
 unfold gB;omega
theorem bodyB_len {u:Upd} (h:Small u):(bodyB u).length≤100000:=by
 have h1:=aB_len h.few
 have h2:=gB_len h.gone
 have h3:=prefsB_len u.new
 have h4:=h.new
 simp only[bodyB,partsU,List.flatten_cons,List.flatten_nil,List.length_append,List.append_nil,twoB,List.length_cons,List.length_nil]
 omega
theorem less_encB {fr:Bool} {l:List UInt8}:Less (encB fr l) (encB false l):=Less.sl (by simp) rfl (by
 intro j v v' h1 h2
 rw[h1]at h2;cases h2;exact .refl _)
theorem less_catV {ls:List (List UInt8)}:Less (.sl false 1 (ls.map fun l=>[encB true l])) (catV false ls):=Less.sl id (by simp) (by
 intro j v v' h1 h2
 rw[flat1]at h1 h2
 simp only[List.getElem?_map,Option.map_eq_some_iff]at h1 h2
 obtain⟨x,hx,rfl⟩:=h1
 obtain⟨y,hy,rfl⟩:=h2
 rw[hx]at hy;cases hy
 exact less_encB)
theorem rowsT_free (ls:List (List UInt8)):∀x∈(ls.map fun l=>[encB true l]),∀v∈x,Free v:=by
 intro x hx v hv
 obtain⟨l,_,rfl⟩:=List.mem_map.1 hx
 simp at hv;subst hv;exact encB_free _ _
theorem uraw_ok (fr:Bool) (u:Upd) (hs:Small u) (hg:okPs u.gone) (hn:okPs u.new):PCon prog 63 [encU fr u] (encB true (bodyB u)):=by
 have h1:=aB_len hs.few
 have h2:=gB_len hs.gone
 have h3:=bodyB_len hs
 have ca:=concatB_ok (partsU u) (by simp[partsU]) (by rw[← bodyB];omega)
 refine callV_of (fn:=Go.Proofs.Tryz.f63) (body:=_) tab_ok mixed rfl rfl (by decide) (by simp[Go.Proofs.Tryz.f63]) ?_
 conv=>whnf
 refine callV_pure (ulaid_ok fr u.gone hs.gone hg) ⟨.fr rfl,trivial⟩ ?_
 conv=>whnf
 refine callV_pure (rawA_ok fr u.attrs hs.few) ⟨.fr rfl,trivial⟩ ?_
 conv=>whnf
 refine⟨_,[],fun h nx _=>pureV_pure (uhighI_ok (gB u).length (by omega)) ⟨.int_of (by simp[gB]),.fr rfl,trivial⟩,by simp,?_⟩
 conv=>whnf
 refine⟨_,[],fun h nx _=>pureV_pure (uhighI_ok (aB u).length (by omega)) ⟨.int_of (by simp[aB]),.fr rfl,trivial⟩,by simp,?_⟩
 conv=>whnf
 refine⟨_,[],fun h nx _=>pureV_pure (ulaid_ok fr u.new hs.new hn) ⟨.fr rfl,trivial⟩,by simp,?_⟩
 conv=>whnf
 refine⟨encB true (bodyB u),[(1,some (.arr true true 127 1 ((partsU u).map fun l=>[encB true l])))],fun h nx hrd=>?_,?_,?_⟩
 ·have hb:=hrd 1 _ (List.mem_singleton.2 rfl)
  exact pureV_lend [1] ca ⟨LeV.less (LeV.fresh_off (LeV.freeze_of (ys:=(partsU u).map fun l=>[encB true l]) (by simp) hb (by simp[partsU]) (rowsT_free _) rfl)) less_catV,trivial⟩ (by intro v hv;obtain rfl:=List.mem_singleton.1 hv;exact catV_cold _) (one_none hb) (encB_fresh _)
 ·intro b ob hm
  obtain⟨rfl,rfl⟩:b=1∧ob=_:=by simpa using hm
  rfl
 conv=>whnf
 refine⟨by kernel_rfl,?_⟩
 conv=>whnf
 exact(Ends.pA)
end
section
open Go.Proofs.Tryz (prog)
attribute [local irreducible] CallV RoundV aggK
def saidU (u:Upd):Bool:=if u.new=[]then sameA u.attrs noA else rightA u.attrs
def mayU (u:Upd):Bool:=riseP u.gone && riseP u.new && apartP u.gone u.new && saidU u
def checkU (u:Upd):Int:=if mayU u then(if 493 < (bodyB u).length then 3 else 0)else 2
theorem okPs_rise {l:List Prefix} (h:riseP l=true):okPs l:=fun p hp=>by
 obtain⟨j,hj,rfl⟩:=List.getElem_of_mem hp
 exact(riseP_iff.1 h j hj).1
theorem mayU_out {u:Upd} (h:mayU u=true):riseP u.gone=true∧riseP u.new=true∧apartP u.gone u.new=true∧saidU u=true:=by
 simp only[mayU,Bool.and_eq_true]at h
 exact⟨h.1.1.1,h.1.1.2,h.1.2,h.2⟩
theorem saidU_some {u:Upd} (h0:u.new ≠ []) (h:saidU u=true):rightA u.attrs=true:=by
 simpa only[saidU,if_neg h0]using h
theorem ucheck_ok (fr:Bool) (u:Upd) (hs:Small u):PCon prog 29 [encU fr u] (.int .i64 (checkU u)):=by
 have c1:=urise_ok fr u.gone hs.gone
 have c2:=urise_ok fr u.new hs.new
 have c3:=uapart_ok fr fr u.gone u.new
 refine callV_of (fn:=Go.Proofs.Tryz.f29) (body:=_) tab_ok mixed rfl rfl (by decide) (by simp[Go.Proofs.Tryz.f29]) ?_
 conv=>whnf
 refine callV_pure (same_ok fr true u.attrs noA) ⟨.fr rfl,.noA,trivial⟩ ?_
 by_cases hn:u.new=[]
 ·have hlen:u.new.length=0:=by rw[hn];rfl
  cases hsame:sameA u.attrs noA with
  | false=>
   have hsd:saidU u=false:=by simp[saidU,hn,hsame]
   conv=>whnf
   refine fun(_:gd none _)=>?_
   conv=>whnf
   split
   ·rename_i hc;exfalso;simp[hn]at hc
   conv=>whnf
   refine callV_pure c1 ⟨.fr rfl,trivial⟩ ?_
   cases h1:riseP u.gone with
   | false=>
    conv=>whnf
    exact(Ends.pure [] (by repeat' (first|exact True.intro|exact .int_of (by simp[checkU,mayU,h1])|exact .A|exact LeL.fr rfl|refine .tupL ?_|refine .aggL ?_|refine⟨?_,?_⟩)) (by simp))
   | true=>
    conv=>whnf
    refine callV_pure c2 ⟨.fr rfl,trivial⟩ ?_
    cases h2:riseP u.new with
    | false=>
     conv=>whnf
     exact(Ends.pure [] (by repeat' (first|exact True.intro|exact .int_of (by simp[checkU,mayU,h2])|exact .A|exact LeL.fr rfl|refine .tupL ?_|refine .aggL ?_|refine⟨?_,?_⟩)) (by simp))
    | true=>
     conv=>whnf
     refine callV_pure c3 ⟨.fr rfl,.fr rfl,trivial⟩ ?_
     cases h3:apartP u.gone u.new with
     | false=>
      conv=>whnf
      exact(Ends.pure [] (by repeat' (first|exact True.intro|exact .int_of (by simp[checkU,mayU,h3])|exact .A|exact LeL.fr rfl|refine .tupL ?_|refine .aggL ?_|refine⟨?_,?_⟩)) (by simp))
     | true=>
      conv=>whnf
      exact(Ends.pure [] (by repeat' (first|exact True.intro|exact .int_of (by simp[checkU,mayU,hsd])|exact .A|exact LeL.fr rfl|refine .tupL ?_|refine .aggL ?_|refine⟨?_,?_⟩)) (by simp))
  | true=>
   have hsd:saidU u=true:=by simp[saidU,hn,hsame]
   conv=>whnf
   refine fun(_:gd none _)=>?_
   conv=>whnf
   split
   ·rename_i hc;exfalso;simp[hn]at hc
   conv=>whnf
   refine callV_pure c1 ⟨.fr rfl,trivial⟩ ?_
   cases h1:riseP u.gone with
   | false=>
    conv=>whnf
    exact(Ends.pure [] (by repeat' (first|exact True.intro|exact .int_of (by simp[checkU,mayU,h1])|exact .A|exact LeL.fr rfl|refine .tupL ?_|refine .aggL ?_|refine⟨?_,?_⟩)) (by simp))
   | true=>
    conv=>whnf
    refine callV_pure c2 ⟨.fr rfl,trivial⟩ ?_
    cases h2:riseP u.new with
    | false=>
     conv=>whnf
     exact(Ends.pure [] (by repeat' (first|exact True.intro|exact .int_of (by simp[checkU,mayU,h2])|exact .A|exact LeL.fr rfl|refine .tupL ?_|refine .aggL ?_|refine⟨?_,?_⟩)) (by simp))
    | true=>
     conv=>whnf
     refine callV_pure c3 ⟨.fr rfl,.fr rfl,trivial⟩ ?_
     cases h3:apartP u.gone u.new with
     | false=>
      conv=>whnf
      exact(Ends.pure [] (by repeat' (first|exact True.intro|exact .int_of (by simp[checkU,mayU,h3])|exact .A|exact LeL.fr rfl|refine .tupL ?_|refine .aggL ?_|refine⟨?_,?_⟩)) (by simp))
     | true=>
      conv=>whnf
      refine callV_pure (uraw_ok fr u hs (okPs_rise h1) (okPs_rise h2)) ⟨.fr rfl,trivial⟩ ?_
      conv=>whnf
      refine fun(_:gd none _)=>?_
      conv=>whnf
      split
      ·rename_i hb
       have hb:493 < (bodyB u).length:=by have:=of_decide_eq_true hb;simp only[List.length_map]at this;omega
       conv=>whnf
       exact(Ends.pure [] (by repeat' (first|exact True.intro|exact .int_of (by simp[checkU,mayU,hsd,h1,h2,h3,hb])|exact .A|exact LeL.fr rfl|refine .tupL ?_|refine .aggL ?_|refine⟨?_,?_⟩)) (by simp))
      ·rename_i hb
       have hb:¬ 493 < (bodyB u).length:=by have:=of_decide_eq_false hb;simp only[List.length_map]at this;omega
       conv=>whnf
       exact(Ends.pure [] (by repeat' (first|exact True.intro|exact .int_of (by simp[checkU,mayU,hsd,h1,h2,h3,hb])|exact .A|exact LeL.fr rfl|refine .tupL ?_|refine .aggL ?_|refine⟨?_,?_⟩)) (by simp))
 ·have hlen:0 < u.new.length:=List.length_pos_iff.2 hn
  conv=>whnf
  refine fun(_:gd none _)=>?_
  conv=>whnf
  split
  rotate_left
  ·rename_i hc;exfalso;simp at hc;exact hn hc
  conv=>whnf
  refine callV_pure (check_ok fr u.attrs) ⟨.fr rfl,trivial⟩ ?_
  cases hright:rightA u.attrs with
  | false=>
   have hsd:saidU u=false:=by simp[saidU,hn,hright]
   rw[checkA_no hright]
   conv=>whnf
   refine callV_pure c1 ⟨.fr rfl,trivial⟩ ?_
   cases h1:riseP u.gone with
   | false=>
    conv=>whnf
    exact(Ends.pure [] (by repeat' (first|exact True.intro|exact .int_of (by simp[checkU,mayU,h1])|exact .A|exact LeL.fr rfl|refine .tupL ?_|refine .aggL ?_|refine⟨?_,?_⟩)) (by simp))
   | true=>
    conv=>whnf
    refine callV_pure c2 ⟨.fr rfl,trivial⟩ ?_
    cases h2:riseP u.new with
    | false=>
     conv=>whnf
     exact(Ends.pure [] (by repeat' (first|exact True.intro|exact .int_of (by simp[checkU,mayU,h2])|exact .A|exact LeL.fr rfl|refine .tupL ?_|refine .aggL ?_|refine⟨?_,?_⟩)) (by simp))
    | true=>
     conv=>whnf
     refine callV_pure c3 ⟨.fr rfl,.fr rfl,trivial⟩ ?_
     cases h3:apartP u.gone u.new with
     | false=>
      conv=>whnf
      exact(Ends.pure [] (by repeat' (first|exact True.intro|exact .int_of (by simp[checkU,mayU,h3])|exact .A|exact LeL.fr rfl|refine .tupL ?_|refine .aggL ?_|refine⟨?_,?_⟩)) (by simp))
     | true=>
      conv=>whnf
      exact(Ends.pure [] (by repeat' (first|exact True.intro|exact .int_of (by simp[checkU,mayU,hsd])|exact .A|exact LeL.fr rfl|refine .tupL ?_|refine .aggL ?_|refine⟨?_,?_⟩)) (by simp))
  | true=>
   have hsd:saidU u=true:=by simp[saidU,hn,hright]
   rw[checkA_yes hright]
   conv=>whnf
   refine callV_pure c1 ⟨.fr rfl,trivial⟩ ?_
   cases h1:riseP u.gone with
   | false=>
    conv=>whnf
    exact(Ends.pure [] (by repeat' (first|exact True.intro|exact .int_of (by simp[checkU,mayU,h1])|exact .A|exact LeL.fr rfl|refine .tupL ?_|refine .aggL ?_|refine⟨?_,?_⟩)) (by simp))
   | true=>
    conv=>whnf
    refine callV_pure c2 ⟨.fr rfl,trivial⟩ ?_
    cases h2:riseP u.new with
    | false=>
     conv=>whnf
     exact(Ends.pure [] (by repeat' (first|exact True.intro|exact .int_of (by simp[checkU,mayU,h2])|exact .A|exact LeL.fr rfl|refine .tupL ?_|refine .aggL ?_|refine⟨?_,?_⟩)) (by simp))
    | true=>
     conv=>whnf
     refine callV_pure c3 ⟨.fr rfl,.fr rfl,trivial⟩ ?_
     cases h3:apartP u.gone u.new with
     | false=>
      conv=>whnf
      exact(Ends.pure [] (by repeat' (first|exact True.intro|exact .int_of (by simp[checkU,mayU,h3])|exact .A|exact LeL.fr rfl|refine .tupL ?_|refine .aggL ?_|refine⟨?_,?_⟩)) (by simp))
     | true=>
      conv=>whnf
      refine callV_pure (uraw_ok fr u hs (okPs_rise h1) (okPs_rise h2)) ⟨.fr rfl,trivial⟩ ?_
      conv=>whnf
      refine fun(_:gd none _)=>?_
      conv=>whnf
      split
      ·rename_i hb
       have hb:493 < (bodyB u).length:=by have:=of_decide_eq_true hb;simp only[List.length_map]at this;omega
       conv=>whnf
       exact(Ends.pure [] (by repeat' (first|exact True.intro|exact .int_of (by simp[checkU,mayU,hsd,h1,h2,h3,hb])|exact .A|exact LeL.fr rfl|refine .tupL ?_|refine .aggL ?_|refine⟨?_,?_⟩)) (by simp))
      ·rename_i hb
       have hb:¬ 493 < (bodyB u).length:=by have:=of_decide_eq_false hb;simp only[List.length_map]at this;omega
       conv=>whnf
       exact(Ends.pure [] (by repeat' (first|exact True.intro|exact .int_of (by simp[checkU,mayU,hsd,h1,h2,h3,hb])|exact .A|exact LeL.fr rfl|refine .tupL ?_|refine .aggL ?_|refine⟨?_,?_⟩)) (by simp))
end
def keysE {α:Type} (l:List (Prefix × α)):List Prefix:=l.map fun e=>e.1
def getE {α:Type} (l:List (Prefix × α)) (p:Prefix):Option α:=(l.find? fun e=>decide (e.1=p)).map fun e=>e.2
def putE {α:Type} (l:List (Prefix × α)) (p:Prefix) (a:α):List (Prefix × α):=if p∈keysE l then l.map (fun e=>if e.1=p then(p,a)else e)else l ++ [(p,a)]
def delE {α:Type} (l:List (Prefix × α)) (p:Prefix):List (Prefix × α):=l.filter fun e=>!decide (e.1=p)
def NodE {α:Type} (l:List (Prefix × α)):Prop:=(keysE l).Nodup
def RisE {α:Type} (l:List (Prefix × α)):Prop:=(keysE l).Pairwise fun x y=>pkey x < pkey y
theorem RisE.nod {α:Type} {l:List (Prefix × α)} (h:RisE l):NodE l:=nodup_of_strict h
theorem getE_mem {α:Type} {l:List (Prefix × α)} {p:Prefix} {a:α} (h:getE l p=some a):(p,a)∈l:=by
 simp only[getE,Option.map_eq_some_iff]at h
 obtain⟨e,he,rfl⟩:=h
 have h1:=List.find?_some he
 have h1:e.1=p:=by simpa using h1
 subst h1
 exact List.mem_of_find?_eq_some he
theorem mem_getE {α:Type} {p:Prefix} {a:α}:∀{l:List (Prefix × α)},NodE l→(p,a)∈l→getE l p=some a
 | e :: l,hn,h=>by
  simp only[NodE,keysE,List.map_cons,List.nodup_cons]at hn
  by_cases he:e.1=p
  ·have:e=(p,a):=by
    rcases List.mem_cons.1 h with h|h
    ·exact h.symm
    ·exact absurd (List.mem_map.2 ⟨_,h,rfl⟩) (he▸hn.1)
   subst this
   simp[getE]
  ·have h:(p,a)∈l:=by
    rcases List.mem_cons.1 h with h|h
    ·exact absurd (h▸rfl) he
    ·exact h
   have ih:=mem_getE (l:=l) hn.2 h
   simp only[getE,List.find?_cons,decide_eq_false he]at ih ⊢
   exact ih
theorem getE_iff {α:Type} {l:List (Prefix × α)} (hn:NodE l) {p:Prefix} {a:α}:getE l p=some a↔(p,a)∈l:=⟨getE_mem,mem_getE hn⟩
theorem getE_none {α:Type} {l:List (Prefix × α)} {p:Prefix}:getE l p=none↔p ∉ keysE l:=by
 simp only[getE,Option.map_eq_none_iff,List.find?_eq_none,keysE,List.mem_map,not_exists,not_and,decide_eq_true_eq]
theorem getE_key {α:Type} {l:List (Prefix × α)} {p:Prefix} {a:α} (h:getE l p=some a):p∈keysE l:=List.mem_map.2 ⟨_,getE_mem h,rfl⟩
theorem key_getE {α:Type} {l:List (Prefix × α)} {p:Prefix} (h:p∈keysE l):∃a,getE l p=some a:=by
 cases hg:getE l p with
 | some a=>exact⟨a,rfl⟩
 | none=>exact absurd h (getE_none.1 hg)
theorem NodE.nodup {α:Type} {l:List (Prefix × α)} (h:NodE l):l.Nodup:=by
 unfold NodE keysE at h
 exact List.Pairwise.imp (fun h e=>h (by rw[e])) (List.pairwise_map.1 h)
theorem perm_getE {α:Type} {l l':List (Prefix × α)} (hn:NodE l) (hn':NodE l') (h:∀p,getE l p=getE l' p):l.Perm l':=by
 rw[List.perm_ext_iff_of_nodup hn.nodup hn'.nodup]
 rintro ⟨p,a⟩
 rw[← getE_iff hn,← getE_iff hn',h]
theorem NodE.perm {α:Type} {l l':List (Prefix × α)} (hn:NodE l) (h:l.Perm l'):NodE l':=(h.map _).nodup_iff.1 hn
theorem getE_perm {α:Type} {l l':List (Prefix × α)} (hn:NodE l) (h:l.Perm l') (p:Prefix):getE l p=getE l' p:=by
 have hn':=hn.perm h
 cases hg:getE l p with
 | some a=>exact((getE_iff hn').2 (h.mem_iff.1 ((getE_iff hn).1 hg))).symm
 | none=>
  cases hg':getE l' p with
  | none=>rfl
  | some a=>
   rw[(getE_iff hn).2 (h.mem_iff.2 ((getE_iff hn').1 hg'))]at hg
   cases hg
theorem strict_eq {a b:List Prefix} (h1:a.Pairwise fun x y=>pkey x < pkey y) (h2:b.Pairwise fun x y=>pkey x < pkey y) (h:∀p,p∈a↔p∈b):a=b:=
 sorted_eq ((List.perm_ext_iff_of_nodup (nodup_of_strict h1) (nodup_of_strict h2)).2 h) (h1.imp Nat.le_of_lt) (h2.imp Nat.le_of_lt)
theorem keys_put_in {α:Type} {l:List (Prefix × α)} {p:Prefix} {a:α} (h:p∈keysE l):keysE (putE l p a)=keysE l:=by
 unfold putE
 rw[if_pos h]
 simp only[keysE,List.map_map]
 apply List.map_congr_left
 intro e he
 simp only[Function.comp]
 split
 ·rename_i h;exact h.symm
 ·rfl
theorem keys_put_new {α:Type} {l:List (Prefix × α)} {p:Prefix} {a:α} (h:p ∉ keysE l):keysE (putE l p a)=keysE l ++ [p]:=by
 unfold putE
 rw[if_neg h]
 simp[keysE]
theorem nod_put {α:Type} {l:List (Prefix × α)} {p:Prefix} {a:α} (hn:NodE l):NodE (putE l p a):=by
 unfold NodE
 by_cases h:p∈keysE l
 ·rw[keys_put_in h];exact hn
 ·rw[keys_put_new h,List.nodup_append]
  refine⟨hn,by simp,?_⟩
  intro x hx y hy
  simp at hy
  subst hy
  exact fun e=>h (e▸hx)
theorem getE_map_put {α:Type} {p q:Prefix} {a:α}:∀{l:List (Prefix × α)},p∈keysE l→getE (l.map fun e=>if e.1=p then(p,a)else e) q=if q=p then some a else getE l q
 | [],h=>by simp[keysE]at h
 | e :: l,h=>by
  by_cases he:e.1=p
  ·by_cases hq:q=p
   ·subst hq
    simp[getE,he]
   ·have e2:getE (l.map fun e=>if e.1=p then(p,a)else e) q=getE l q:=by
     by_cases h2:p∈keysE l
     ·rw[getE_map_put h2,if_neg hq]
     ·congr 1
      conv=>rhs;rw[← List.map_id l]
      apply List.map_congr_left
      intro x hx
      rw[if_neg fun e=>h2 (List.mem_map.2 ⟨x,hx,e⟩)]
      rfl
    rw[if_neg hq]
    simp only[getE,List.map_cons,if_pos he,List.find?_cons]at e2 ⊢
    rw[decide_eq_false (fun e=>hq e.symm),he,decide_eq_false (fun e=>hq e.symm)]
    exact e2
  ·have h2:p∈keysE l:=by
    simp only[keysE,List.map_cons,List.mem_cons]at h
    rcases h with h|h
    ·exact absurd h.symm he
    ·exact h
   have ih:=getE_map_put (q:=q) (a:=a) h2
   simp only[getE,List.map_cons,if_neg he,List.find?_cons]at ih ⊢
   by_cases hq:e.1=q
   ·rw[decide_eq_true hq]
    simp only[Option.map_some]
    rw[if_neg (fun e2=>he (hq.trans e2))]
   ·rw[decide_eq_false hq]
    exact ih
theorem getE_put {α:Type} {l:List (Prefix × α)} {p q:Prefix} {a:α}:getE (putE l p a) q=if q=p then some a else getE l q:=by
 unfold putE
 by_cases h:p∈keysE l
 ·rw[if_pos h,getE_map_put h]
 ·rw[if_neg h]
  have hnone:=getE_none.2 h
  simp only[getE,List.find?_append,Option.map_eq_none_iff]at hnone ⊢
  by_cases hq:q=p
  ·subst hq
   rw[hnone]
   simp
  ·rw[if_neg hq]
   have:List.find? (fun e=>decide (e.1=q)) [(p,a)]=none:=by simp[Ne.symm hq]
   rw[this,Option.or_none]
theorem keys_del {α:Type} {l:List (Prefix × α)} {p q:Prefix}:q∈keysE (delE l p)↔q ≠ p∧q∈keysE l:=by
 simp only[keysE,delE,List.mem_map,List.mem_filter,Bool.not_eq_true',decide_eq_false_iff_not]
 constructor
 ·rintro ⟨e,⟨h1,h2⟩,rfl⟩
  exact⟨h2,e,h1,rfl⟩
 ·rintro ⟨h1,e,h2,rfl⟩
  exact⟨e,⟨h2,h1⟩,rfl⟩
theorem nod_filter {α:Type} {l:List (Prefix × α)} (f:Prefix × α→Bool) (hn:NodE l):NodE (l.filter f):=List.Sublist.nodup (List.Sublist.map _ List.filter_sublist) hn
theorem ris_filter {α:Type} {l:List (Prefix × α)} (f:Prefix × α→Bool) (hn:RisE l):RisE (l.filter f):=List.Pairwise.sublist (List.Sublist.map _ List.filter_sublist) hn
theorem nod_del {α:Type} {l:List (Prefix × α)} {p:Prefix} (hn:NodE l):NodE (delE l p):=nod_filter _ hn
theorem getE_filter {α:Type} {l:List (Prefix × α)} (f:Prefix→Bool) (q:Prefix):getE (l.filter fun e=>f e.1) q=if f q then getE l q else none:=by
 induction l with
 | nil=>simp[getE]
 | cons e l ih=>
  simp only[getE]at ih ⊢
  rw[List.filter_cons]
  by_cases he:e.1=q
  ·subst he
   cases hf:f e.1 with
   | true=>simp
   | false=>simp only[hf,Bool.false_eq_true,if_false]at ih ⊢;exact ih
  ·cases hf:f e.1 with
   | true=>simp only[if_true,List.find?_cons,decide_eq_false he];exact ih
   | false=>simp only[Bool.false_eq_true,if_false,List.find?_cons,decide_eq_false he];exact ih
theorem getE_del {α:Type} {l:List (Prefix × α)} {p q:Prefix}:getE (delE l p) q=if q=p then none else getE l q:=by
 have h:=getE_filter (l:=l) (fun x=>!decide (x=p)) q
 simp only[Bool.not_eq_true',decide_eq_false_iff_not]at h
 rw[delE,h]
 by_cases hq:q=p<;>simp[hq]
structure Change where
 pfx:Prefix
 has:Bool
 attrs:Attrs
deriving DecidableEq
def chg (z:Attrs) (f g:Prefix→Option Attrs) (p:Prefix):Option Change:=if f p=g p then none else some ⟨p,(g p).isSome,(g p).getD z⟩
theorem filterMap_filter_some {α β:Type} (h:α→Option β):∀l:List α,l.filterMap h=(l.filter fun x=>(h x).isSome).filterMap h
 | []=>rfl
 | a :: l=>by
  rw[List.filterMap_cons,List.filter_cons]
  cases ha:h a with
  | none=>simp only[Option.isSome_none,Bool.false_eq_true,if_false];exact filterMap_filter_some h l
  | some b=>simp only[Option.isSome_some,if_true,List.filterMap_cons,ha];rw[filterMap_filter_some h l]
theorem chg_unique {z:Attrs} {f g:Prefix→Option Attrs} {a b:List Prefix} (h1:a.Pairwise fun x y=>pkey x < pkey y) (h2:b.Pairwise fun x y=>pkey x < pkey y)
  (h:∀p,f p ≠ g p→p∈a∧p∈b):a.filterMap (chg z f g)=b.filterMap (chg z f g):=by
 rw[filterMap_filter_some,filterMap_filter_some (l:=b)]
 congr 1
 refine strict_eq (h1.sublist List.filter_sublist) (h2.sublist List.filter_sublist) fun p=>?_
 have key:(chg z f g p).isSome=true→p∈a∧p∈b:=fun hp=>h p fun e=>by rw[chg,if_pos e]at hp;simp at hp
 simp only[List.mem_filter]
 exact⟨fun⟨_,hp⟩=>⟨(key hp).2,hp⟩,fun⟨_,hp⟩=>⟨(key hp).1,hp⟩⟩
def withoutE {α:Type} (l:List (Prefix × α)) (gone:List Prefix):List (Prefix × α):=l.filter fun e=>!decide (e.1∈gone)
def stepX {α:Type} (x:Prefix × α) (s:List (Prefix × α) × Bool) (y:Prefix × α):List (Prefix × α) × Bool:=if s.2=false∧0 < cmpP y.1 x.1 then(s.1 ++ [x]++ [y],true)else(s.1 ++ [y],s.2)
def foldX {α:Type} (l:List (Prefix × α)) (x:Prefix × α):List (Prefix × α) × Bool:=l.foldl (stepX x) ([],false)
def withE {α:Type} (l:List (Prefix × α)) (x:Prefix × α):List (Prefix × α):=if(foldX l x).2 then(foldX l x).1 else(foldX l x).1 ++ [x]
def insE {α:Type} (x:Prefix × α):List (Prefix × α)→List (Prefix × α)
 | []=>[x]
 | y :: l=>if 0 < cmpP y.1 x.1 then x :: y :: l else y :: insE x l
theorem foldX_true {α:Type} (x:Prefix × α):∀(l acc:List (Prefix × α)),l.foldl (stepX x) (acc,true)=(acc ++ l,true)
 | [],acc=>by simp
 | y :: l,acc=>by
  rw[List.foldl_cons,stepX,if_neg (by simp),foldX_true x l]
  simp
theorem foldX_ins {α:Type} (x:Prefix × α):∀(l acc:List (Prefix × α)),(if(l.foldl (stepX x) (acc,false)).2 then(l.foldl (stepX x) (acc,false)).1 else(l.foldl (stepX x) (acc,false)).1 ++ [x])=acc ++ insE x l
 | [],acc=>by simp[insE]
 | y :: l,acc=>by
  rw[insE]
  by_cases h:0 < cmpP y.1 x.1
  ·have e:stepX x (acc,false) y=(acc ++ [x]++ [y],true):=by rw[stepX,if_pos ⟨rfl,h⟩]
   simp only[List.foldl_cons,e,foldX_true,if_true,if_pos h]
   simp
  ·have e:stepX x (acc,false) y=(acc ++ [y],false):=by rw[stepX,if_neg (by simp[h])]
   have ih:=foldX_ins x l (acc ++ [y])
   simp only[List.foldl_cons,e,if_neg h]
   rw[ih]
   simp
theorem withE_ins {α:Type} (l:List (Prefix × α)) (x:Prefix × α):withE l x=insE x l:=by
 have:=foldX_ins x l []
 rw[List.nil_append]at this
 exact this
theorem insE_perm {α:Type} (x:Prefix × α):∀l:List (Prefix × α),(insE x l).Perm (x :: l)
 | []=>.refl _
 | y :: l=>by
  rw[insE]
  split
  ·exact .refl _
  ·exact((insE_perm x l).cons y).trans (.swap x y l)
theorem insE_ris {α:Type} {x:Prefix × α}:∀{l:List (Prefix × α)},RisE l→x.1 ∉ keysE l→RisE (insE x l)
 | [],_,_=>by simp[RisE,keysE,insE]
 | y :: l,h,hx=>by
  have h1:(∀z∈keysE l,pkey y.1 < pkey z)∧RisE l:=by
   simp only[RisE,keysE,List.map_cons,List.pairwise_cons]at h
   exact h
  simp only[keysE,List.map_cons,List.mem_cons,not_or]at hx
  have hne:pkey x.1 ≠ pkey y.1:=fun e=>hx.1 (pkey_inj e)
  rw[insE]
  split
  ·rename_i hc
   have hlt:=(cmpP_gt _ _).1 hc
   simp only[RisE,keysE,List.map_cons,List.pairwise_cons,List.mem_cons]
   refine⟨?_,⟨h1.1,h1.2⟩⟩
   rintro z (rfl|hz)
   ·exact hlt
   ·exact Nat.lt_trans hlt (h1.1 z hz)
  ·rename_i hc
   have hlt:pkey y.1 < pkey x.1:=by
    have:¬ pkey x.1 < pkey y.1:=fun h=>hc ((cmpP_gt _ _).2 h)
    omega
   have ih:=insE_ris h1.2 hx.2
   simp only[RisE,keysE,List.map_cons,List.pairwise_cons]
   refine⟨fun z hz=>?_,ih⟩
   have hm:z∈keysE (x :: l):=((insE_perm x l).map fun e:Prefix × α=>e.1).mem_iff.1 hz
   simp only[keysE,List.map_cons,List.mem_cons]at hm
   rcases hm with rfl|hm
   ·exact hlt
   ·exact h1.1 z hm
theorem getE_cons {α:Type} {x:Prefix × α} {l:List (Prefix × α)} {q:Prefix}:getE (x :: l) q=if q=x.1 then some x.2 else getE l q:=by
 simp only[getE,List.find?_cons]
 by_cases h:q=x.1
 ·subst h;simp
 ·rw[if_neg h,decide_eq_false (fun e=>h e.symm)]
theorem getE_ins {α:Type} {x:Prefix × α} {l:List (Prefix × α)} (hr:RisE l) (hx:x.1 ∉ keysE l) (q:Prefix):getE (insE x l) q=if q=x.1 then some x.2 else getE l q:=by
 rw[getE_perm (insE_ris hr hx).nod (insE_perm x l),getE_cons]
def putsM {α:Type} (l:List (Prefix × α)) (new:List Prefix) (a:α):List (Prefix × α):=new.foldl (fun l p=>putE l p a) l
def delsM {α:Type} (l:List (Prefix × α)) (gone:List Prefix):List (Prefix × α):=gone.foldl delE l
def takeM {α:Type} (l:List (Prefix × α)) (gone new:List Prefix) (a:α):List (Prefix × α):=putsM (delsM l gone) new a
def takeS {α:Type} (l:List (Prefix × α)) (gone new:List Prefix) (a:α):List (Prefix × α):=new.foldl (fun l p=>withE l (p,a)) (withoutE (withoutE l gone) new)
theorem nod_dels {α:Type}:∀{gone:List Prefix} {l:List (Prefix × α)},NodE l→NodE (delsM l gone)
 | [],_,h=>h
 | p :: gone,_,h=>nod_dels (gone:=gone) (nod_del h)
theorem getE_dels {α:Type}:∀{gone:List Prefix} {l:List (Prefix × α)} {q:Prefix},getE (delsM l gone) q=if q∈gone then none else getE l q
 | [],l,q=>by simp[delsM]
 | p :: gone,l,q=>by
  show getE (delsM (delE l p) gone) q=_
  rw[getE_dels,getE_del]
  by_cases h1:q∈gone<;>by_cases h2:q=p<;>simp[h1,h2]
theorem nod_puts {α:Type} {a:α}:∀{new:List Prefix} {l:List (Prefix × α)},NodE l→NodE (putsM l new a)
 | [],_,h=>h
 | p :: new,_,h=>nod_puts (new:=new) (nod_put h)
theorem getE_puts {α:Type} {a:α}:∀{new:List Prefix} {l:List (Prefix × α)} {q:Prefix},getE (putsM l new a) q=if q∈new then some a else getE l q
 | [],l,q=>by simp[putsM]
 | p :: new,l,q=>by
  show getE (putsM (putE l p a) new a) q=_
  rw[getE_puts,getE_put]
  by_cases h1:q∈new<;>by_cases h2:q=p<;>simp[h1,h2]
theorem nod_take {α:Type} {l:List (Prefix × α)} {gone new:List Prefix} {a:α} (h:NodE l):NodE (takeM l gone new a):=nod_puts (nod_dels h)
theorem getE_take {α:Type} {l:List (Prefix × α)} {gone new:List Prefix} {a:α} {q:Prefix}:getE (takeM l gone new a) q=if q∈new then some a else if q∈gone then none else getE l q:=by
 rw[takeM,getE_puts,getE_dels]
theorem getE_without {α:Type} {l:List (Prefix × α)} {gone:List Prefix} {q:Prefix}:getE (withoutE l gone) q=if q∈gone then none else getE l q:=by
 have h:=getE_filter (l:=l) (fun x=>!decide (x∈gone)) q
 simp only[Bool.not_eq_true',decide_eq_false_iff_not]at h
 rw[withoutE,h]
 by_cases hq:q∈gone<;>simp[hq]
theorem ris_without {α:Type} {l:List (Prefix × α)} {gone:List Prefix} (h:RisE l):RisE (withoutE l gone):=ris_filter _ h
theorem withs_ok {α:Type} {a:α}:∀{new:List Prefix} {l:List (Prefix × α)},RisE l→new.Nodup→(∀p∈new,p ∉ keysE l) →
  RisE (new.foldl (fun l p=>withE l (p,a)) l)∧∀q,getE (new.foldl (fun l p=>withE l (p,a)) l) q=if q∈new then some a else getE l q
 | [],l,h,_,_=>⟨h,fun q=>by simp⟩
 | p :: new,l,h,hn,hk=>by
  have hp:=hk p (by simp)
  rw[List.nodup_cons]at hn
  have h1:RisE (withE l (p,a)):=by rw[withE_ins];exact insE_ris h hp
  have hg:∀q,getE (withE l (p,a)) q=if q=p then some a else getE l q:=fun q=>by rw[withE_ins];exact getE_ins h hp q
  have hk2:∀q∈new,q ∉ keysE (withE l (p,a)):=fun q hq=>by
   rw[← getE_none,hg,if_neg (fun e=>hn.1 (by rw[← e];exact hq)),getE_none]
   exact hk q (by simp[hq])
  obtain⟨r1,r2⟩:=withs_ok (a:=a) h1 hn.2 hk2
  refine⟨r1,fun q=>?_⟩
  rw[List.foldl_cons,r2,hg]
  by_cases h1:q∈new<;>by_cases h2:q=p<;>simp[h1,h2]
theorem takeS_ok {α:Type} {l:List (Prefix × α)} {gone new:List Prefix} {a:α} (h:RisE l) (hn:new.Nodup) :
  RisE (takeS l gone new a)∧∀q,getE (takeS l gone new a) q=if q∈new then some a else if q∈gone then none else getE l q:=by
 have h1:RisE (withoutE (withoutE l gone) new):=ris_without (ris_without h)
 have hk:∀p∈new,p ∉ keysE (withoutE (withoutE l gone) new):=fun p hp=>by rw[← getE_none,getE_without,if_pos hp]
 obtain⟨r1,r2⟩:=withs_ok (a:=a) h1 hn hk
 refine⟨r1,fun q=>?_⟩
 rw[takeS,r2,getE_without,getE_without]
 by_cases h1:q∈new<;>simp[h1]
theorem take_perm {α:Type} {l m:List (Prefix × α)} {gone new:List Prefix} {a:α} (h:RisE l) (hp:m.Perm l) (hn:new.Nodup):(takeM m gone new a).Perm (takeS l gone new a):=by
 obtain⟨r1,r2⟩:=takeS_ok (gone:=gone) (a:=a) h hn
 have hm:=h.nod.perm hp.symm
 exact perm_getE (nod_take hm) r1.nod fun p=>by rw[getE_take,r2,getE_perm hm hp]
def cntE {α β:Type} (c:Prefix→α→Option β) (l:List (Prefix × α)):List (Prefix × β):=l.filterMap fun e=>(c e.1 e.2).map fun b=>(e.1,b)
theorem keys_cnt {α β:Type} (c:Prefix→α→Option β):∀l:List (Prefix × α),(keysE (cntE c l)).Sublist (keysE l)
 | []=>.refl _
 | e :: l=>by
  simp only[cntE,List.filterMap_cons]
  cases h:c e.1 e.2 with
  | none=>exact(keys_cnt c l).trans (List.sublist_cons_self _ _)
  | some b=>exact(keys_cnt c l).cons_cons _
theorem nod_cnt {α β:Type} {c:Prefix→α→Option β} {l:List (Prefix × α)} (h:NodE l):NodE (cntE c l):=List.Sublist.nodup (keys_cnt c l) h
theorem perm_cnt {α β:Type} {c:Prefix→α→Option β} {l l':List (Prefix × α)} (h:l.Perm l'):(cntE c l).Perm (cntE c l'):=h.filterMap _
theorem getE_cnt {α β:Type} {c:Prefix→α→Option β} {l:List (Prefix × α)} (hn:NodE l) (q:Prefix):getE (cntE c l) q=(getE l q).bind (c q):=by
 have hn':=nod_cnt (c:=c) hn
 cases h:getE (cntE c l) q with
 | some b=>
  have hm:=(getE_iff hn').1 h
  simp only[cntE,List.mem_filterMap,Option.map_eq_some_iff]at hm
  obtain⟨e,he,b',hb,e2⟩:=hm
  cases e2
  rw[(getE_iff hn).2 (show(e.1,e.2)∈l from he)]
  exact hb.symm
 | none=>
  cases h2:getE l q with
  | none=>rfl
  | some a=>
   cases h3:c q a with
   | none=>simp[h3]
   | some b=>
    exfalso
    have hm:(q,b)∈cntE c l:=List.mem_filterMap.2 ⟨(q,a),getE_mem h2,by simp[h3]⟩
    rw[mem_getE hn' hm]at h
    cases h
section
open Go.Proofs.Tryz (prog)
attribute [local irreducible] CallV RoundV aggK
structure Peer where
 sys:UInt32
 id:UInt32
 addr:UInt32
 inner:Bool
deriving DecidableEq
def cellsPe (p:Peer):List V:=[cW p.sys,cW p.id,cW p.addr,.bool p.inner]
def encPe (p:Peer):V:=.agg (cellsPe p)
def esA (m:List (Prefix × Attrs)):List (V × V):=m.map fun e=>(encP e.1,encA false e.2)
def cellsIn (own:UInt32) (pe:Peer) (pol:Policy) (m:List (Prefix × Attrs)):List V:=
 [cW pe.sys,cW pe.id,cW pe.addr,.bool pe.inner,cW own,encRus false pol.rules,.bool pol.els,.imap false (esA m)]
theorem cellsPe_all (p:Peer):∀v∈cellsPe p,Free v∧Cold v∧Fresh v:=by
 intro v hv
 simp only[cellsPe,List.mem_cons,List.not_mem_nil,or_false]at hv
 rcases hv with rfl|rfl|rfl|rfl<;>first|exact⟨.int,.int,.int⟩|exact⟨.bool,.bool,.bool⟩
theorem encPe_free (p:Peer):Free (encPe p):=.agg fun v hv=>(cellsPe_all p v hv).1
theorem esA_free (m:List (Prefix × Attrs)):∀kv∈esA m,Free kv.1∧Free kv.2:=by
 intro kv h
 obtain⟨e,_,rfl⟩:=List.mem_map.1 h
 exact⟨encP_free _,encA_free _ _⟩
theorem esA_keys (m:List (Prefix × Attrs)):KeysV tab 31 (esA m):=by
 intro kv h
 obtain⟨e,_,rfl⟩:=List.mem_map.1 h
 exact keyP _
theorem imapA_free (m:List (Prefix × Attrs)):Free (.imap false (esA m)):=.imap fun kv h=>esA_free m kv h
theorem cellsIn_free (own:UInt32) (pe:Peer) (pol:Policy) (m:List (Prefix × Attrs)):∀v∈cellsIn own pe pol m,Free v:=by
 intro v hv
 simp only[cellsIn,List.mem_cons,List.not_mem_nil,or_false]at hv
 rcases hv with rfl|rfl|rfl|rfl|rfl|rfl|rfl|rfl<;>first|exact .int|exact .bool|exact .sl (rowsRu_free _)|exact imapA_free _
instance {p}:FreeI (encPe p):=⟨⟨encPe_free p⟩⟩
instance {m}:FreeI (.imap false (esA m)):=⟨⟨imapA_free m⟩⟩
instance {own pe pol m}:FreeLI (cellsIn own pe pol m):=⟨⟨cellsIn_free own pe pol m⟩⟩
theorem clone_evo {G:Gh} {w:World} (o:Obj) (hr:HR G [] 0 w):Evo 0 G w ⟨fun b=>if b=0 then some w.heap.size else none,G.amb,G.B⟩ (w.alloc o):=by
 have hB:Below w.heap.size w (w.alloc o):=(Below.refl _ w).alloc (Nat.le_refl _) _
 refine⟨hB.os,hB.tape,hB.output,hB.size,rfl,fun c h=>h,fun c h=>hB.block c (hr.amb_lt c h),fun c m h=>?_,fun b c h=>by omega,fun c h _=>hB.block c h,fun c h _=>.inl h,fun b c h hlt=>?_⟩
 ·have hlt:c < w.heap.size:=by
   unfold csz at h
   split at h
   ·rename_i e
    exact(Array.getElem?_eq_some_iff.1 e).1
   ·cases h
  unfold csz at h ⊢
  rw[hB.block c hlt]
  exact h
 ·simp only at h
  split at h
  ·cases h;omega
  ·cases h
theorem imap_out {G:Gh} {w:World} {fr:Bool} {es:List (V × V)} {u:Value} (h:vr G w (.imap fr es) u):∃(c:Nat) (arr:Array MapEntry) (clk:Nat),u=.map (some c)∧w.heap[c]? = some (.map arr clk)∧EntOk arr clk∧es.length=arr.toList.length ∧
  ∀(j:Nat) (kv:V × V) (e:MapEntry),es[j]? = some kv→arr.toList[j]? = some e→vr G w kv.1 e.key∧vr G w kv.2 e.val:=by
 cases h with
 | imap _ _ c arr clk hc hok hl hk hv=>exact⟨c,arr,clk,rfl,rd_map.1 hc.1,hok,hl,fun j kv e h1 h2=>⟨hk j kv e h1 h2,hv j kv e h1 h2⟩⟩
theorem alloc_at (w:World) (o:Obj):(w.alloc o).heap[w.heap.size]? = some o:=(MapKept.heap_alloc w _).1
theorem cloneA_own (fr:Bool) (es:List (V × V)):CallV prog 57 [.imap fr es] [] 0 (fun v h nx=>v=.mapp 0∧h=[(0,some (.map es))]∧nx=1):=by
 unfold CallV
 refine⟨⟨_,Go.Proofs.Tryz.func57⟩,fun G w us hr hv=>.inl ⟨⟨_,Go.Proofs.Tryz.func57,rfl,by decide⟩,?_⟩⟩
 obtain⟨u,rfl,hu⟩:=vrs_one hv
 obtain⟨c,arr,clk,rfl,hh,hok,hl,hkv⟩:=imap_out hu
 refine(AnyW.maps_Clone Go.Proofs.Tryz.cloneMap c arr clk w hh).mono ?_
 rintro e w' ⟨rfl,rfl⟩
 have he:=clone_evo (.map arr clk) hr
 have hB:Below w.heap.size w (w.alloc (.map arr clk)):=(Below.refl _ w).alloc (Nat.le_refl _) _
 have hd:∀b,0≤b→G.ι b=none:=fun b h=>hr.dom b h
 have hone:∀{b:Nat} {blk:Blk},hget [(0,some (Blk.map es))] b=some blk→b=0∧blk=.map es:=by
  intro b blk h
  rw[hget_cons]at h
  split at h
  ·rename_i e;exact⟨e.symm,(Option.some.inj h).symm⟩
  ·simp[hget]at h
 refine⟨_,_,_,_,⟨fun b=>if b=0 then some w.heap.size else none,G.amb,G.B⟩,rfl,⟨rfl,rfl,rfl⟩,.mapp 0 _ rfl,⟨fun c hc=>Nat.lt_of_lt_of_le (hr.amb_lt c hc) hB.size,Nat.le_trans hr.B_le hB.size,fun b hb=>if_neg (by omega),fun b blk h=>?_,fun b b' k k' c h h' _ _=>?_,fun b k c h hc ha=>?_,fun b c h=>?_,fun b k h=>?_,hr.gl.evo he⟩,he,by omega⟩
 ·obtain⟨rfl,rfl⟩:=hone h
  exact⟨_,arr,clk,rfl,alloc_at _ _,hok,hl,fun j kv e h1 h2=>⟨he.vr hd (hkv j kv e h1 h2).1,he.vr hd (hkv j kv e h1 h2).2⟩⟩
 ·rw[(hone h).1,(hone h').1]
 ·have:=hr.amb_lt c ha
  simp only at hc
  split at hc
  ·cases hc;omega
  ·cases hc
 ·simp only at h
  split at h
  ·cases h
   exact(Array.getElem?_eq_some_iff.1 (alloc_at w (.map arr clk))).1
  ·cases h
 ·rw[(hone h).1];omega
end
section
open Go.Proofs.Tryz (prog)
attribute [local irreducible] CallV RoundV aggK
def litW (x:UInt32):Lit:=.int .u32 (x.toNat:Int)
theorem litW_inj {x y:UInt32} (h:litW x=litW y):x=y:=by
 simp only[litW,Lit.int.injEq,true_and]at h
 exact UInt32.toNat_inj.1 (by omega)
end
section
open Go.Proofs.Tryz (prog)
attribute [local irreducible] CallV RoundV aggK
theorem cloneRu_own (fr:Bool) (l:List Rule) (hl:l.length≤1000):OCon prog 68 [encRus fr l] true false 132 15 l.length (rowsRu l):=by
 rcases l with _|⟨x,l⟩
 ·refine callV_of (fn:=Go.Proofs.Tryz.f68) (body:=_) tab_ok mixed rfl rfl (by decide) (by simp[Go.Proofs.Tryz.f68]) ?_
  conv=>whnf
  refine⟨?_,?_⟩
  ·conv=>whnf
   exact Ends.ownNil
  ·conv=>whnf
   refine⟨⟨rfl,rfl,rfl,rfl,by decide⟩,by simp,⟨by simp[tab,tabOf,nth],by simp⟩,?_⟩
   conv=>whnf
   exact Ends.own rfl (by simp) rfl rfl
 ·refine callV_of (fn:=Go.Proofs.Tryz.f68) (body:=_) tab_ok mixed rfl rfl (by decide) (by simp[Go.Proofs.Tryz.f68]) ?_
  conv=>whnf
  refine⟨⟨rfl,rfl,rfl,rfl,by decide⟩,by simp,⟨by simp[tab,tabOf,nth]at *;omega,by simp at *;omega⟩,?_⟩
  conv=>whnf
  exact Ends.own rfl (rowsRu_free (x :: l)) (by simp) rfl
theorem cloneRu_ok (fr:Bool) (l:List Rule) (hl:l.length≤1000):PCon prog 68 [encRus fr l] (encRus true l):=by
 have h:=PCon.of_own (cloneRu_own fr l hl) (by simp) (rowsRu_free l)
 rwa [List.take_of_length_le (by simp)]at h
theorem copied_ok (fr:Bool) (p:Policy) (hl:p.rules.length≤1000):PCon prog 55 [encPo fr p] (encPo false p):=by
 have hc:=cloneRu_ok fr p.rules hl
 refine callV_of (fn:=Go.Proofs.Tryz.f55) (body:=_) tab_ok mixed rfl rfl (by decide) (by simp[Go.Proofs.Tryz.f55]) ?_
 conv=>whnf
 refine⟨_,[],fun h nx _=>pureV_pure hc ⟨.fr rfl,trivial⟩,by simp,?_⟩
 conv=>whnf
 refine⟨by kernel_rfl,?_⟩
 conv=>whnf
 exact(Ends.pure [] (by repeat' (first|exact True.intro|exact .aggL ⟨.fresh_off (.fr rfl),.fr rfl,trivial⟩|exact .A|exact LeL.fr rfl|refine .tupL ?_|refine .aggL ?_|refine⟨?_,?_⟩)) (by simp))
def InC (f:FuncId) (args:List V) (C C':List V) (R:V→Prop):Prop:=
 CallV prog f args [(0,some (.var true 121 C))] 1 (fun v h nx=>R v∧h=[(0,some (.var true 121 C'))]∧nx=1)
theorem callV_in {f:FuncId} {args args0:List V} {C C':List V} {R:V→Prop} {h:Heap} {nx b:Nat} {K:V→Heap→Nat→Prop} (hc:InC f args0 C C' R) (hb:hget h b=some (.var true 121 C))
  (hC:∀v∈C,Free v) (hC':∀v∈C',Free v) (ha:LeL h nx (fun _=>b) 1 [] args args0) (hR:∀v,R v→Free v∧K v ((b,some (.var true 121 C')) :: h) nx):CallV prog f args h nx K:=by
 refine callV_ptr (R:=fun v c=>R v∧c=C') (hc.mono ?_) hb hC ha ?_
 ·rintro v h' nx' ⟨h1,rfl,rfl⟩
  exact⟨C',⟨h1,rfl⟩,rfl,rfl⟩
 ·rintro v c ⟨h1,rfl⟩
  exact⟨(hR v h1).1,hC',(hR v h1).2⟩
theorem none_ok (own:UInt32) (pe:Peer) (pol:Policy) (m:List (Prefix × Attrs)):InC 56 [.ptr 0 0] (cellsIn own pe pol m) (cellsIn own pe pol m) (·=.bool false):=by
 unfold InC
 refine callV_of (fn:=Go.Proofs.Tryz.f56) (body:=_) tab_ok mixed rfl rfl (by decide) (by simp[Go.Proofs.Tryz.f56]) ?_
 conv=>whnf
 exact⟨_,_,_,(Ends.all id [] (by repeat' (first|exact LHa|exact LeL.freeV (cellsIn_free own pe pol m)|exact .A|exact LeL.fr rfl|exact LHb|refine Or.inl ⟨by simp,_,rfl,?_⟩|exact Or.inr ⟨by simp,_,_,_,_,rfl⟩|refine⟨rfl,rfl,rfl,rfl,rfl,rfl,?_⟩|refine⟨?_,?_⟩)) (fun _ _ _ _ h=>h) (fun _ _=>rfl) (by omega) (by simp)),rfl,rfl,rfl⟩
def peerB (own:UInt32) (p:Peer):Bool:=decide (own ≠ 0)&& decide (p.sys ≠ 0)&& decide (p.id ≠ 0)&& decide (p.addr ≠ 0)&& (p.inner == decide (p.sys=own))
theorem zeroW (x:UInt32):((x.toNat:Int)=0)↔x=0:=by
 constructor
 ·intro h;exact UInt32.toNat_inj.1 (by simpa using h)
 ·intro h;subst h;rfl
theorem eqW (x y:UInt32):((x.toNat:Int)=y.toNat)↔x=y:=by
 constructor
 ·intro h;exact UInt32.toNat_inj.1 (by omega)
 ·intro h;subst h;rfl
theorem beqW (x y:UInt32):((x.toNat:Int) == (y.toNat:Int))=decide (x=y):=by
 by_cases h:x=y
 ·subst h;simp
 ·rw[decide_eq_false h]
  simp only[beq_eq_false_iff_ne]
  exact fun e=>h ((eqW _ _).1 e)
structure RibS where
 own:UInt32
 peer:Peer
 pol:Policy
 said:List (Prefix × Attrs)
def encEn (fr:Bool) (e:Prefix × Attrs):List V:=cellsP e.1 ++ cellsA fr e.2
def encEns (fr:Bool) (l:List (Prefix × Attrs)):V:=.sl fr 10 (l.map (encEn fr))
def noRibS:RibS:=⟨0,⟨0,0,0,false⟩,⟨[],false⟩,[]⟩
theorem encEn_free (fr:Bool) (e:Prefix × Attrs):∀v∈encEn fr e,Free v:=by
 intro v hv
 rcases List.mem_append.1 hv with h|h
 ·exact cellsP_free _ v h
 ·exact cellsA_free _ _ v h
theorem encEns_free (fr:Bool) (l:List (Prefix × Attrs)):Free (encEns fr l):=.sl (by
 intro x hx v hv
 obtain⟨e,_,rfl⟩:=List.mem_map.1 hx
 exact encEn_free fr e v hv)
def newOk (own:UInt32) (pe:Peer) (pol:Policy):Bool:=peerB own pe && decide (checkP pol=0)
def newS (own:UInt32) (pe:Peer) (pol:Policy):RibS:=if newOk own pe pol then⟨own,pe,pol,[]⟩else noRibS
theorem neW {x:UInt32} (h:x ≠ 0):((x.toNat:Int) == 0)=false:=by
 simp only[beq_eq_false_iff_ne]
 exact fun e=>h ((zeroW x).1 e)
theorem newOk_out {own:UInt32} {pe:Peer} {pol:Policy} (h:newOk own pe pol=true):own ≠ 0∧pe.sys ≠ 0∧pe.id ≠ 0∧pe.addr ≠ 0∧pe.inner=decide (pe.sys=own)∧checkP pol=0:=by
 simp only[newOk,peerB,Bool.and_eq_true,decide_eq_true_eq,beq_iff_eq]at h
 obtain⟨⟨⟨⟨⟨h1,h2⟩,h3⟩,h4⟩,h5⟩,h6⟩:=h
 exact⟨h1,h2,h3,h4,h5,h6⟩
theorem pol_small {pol:Policy} (h:checkP pol=0):pol.rules.length≤16:=by
 unfold checkP at h
 split at h
 ·exact absurd h (by decide)
 ·split at h
  ·exact absurd h (by decide)
  ·omega
theorem new_ok (own:UInt32) (pe:Peer) (pol:Policy) (h:newOk own pe pol=true):CallV prog 27 [cW own,encPe pe,encPo false pol] [] 0 (fun v h nx=>v=.tup [.ptr 0 0,.int .i64 0]∧h=[(0,some (.var true 121 (cellsIn own pe pol [])))]∧nx=1):=by
 obtain⟨h1,h2,h3,h4,h5,h6⟩:=newOk_out h
 have rc:=check23_ok false pol
 rw[h6]at rc
 have cp:=copied_ok false pol (by have:=pol_small h6;omega)
 have e5:(pe.inner != ((pe.sys.toNat:Int) == own.toNat))=false:=by rw[beqW,h5];simp
 refine callV_of (fn:=Go.Proofs.Tryz.f27) (body:=_) tab_ok mixed rfl rfl (by decide) (by simp[Go.Proofs.Tryz.f27]) ?_
 conv=>whnf
 rw[neW h1]
 conv=>whnf
 rw[neW h2]
 conv=>whnf
 rw[neW h3]
 conv=>whnf
 rw[neW h4]
 conv=>whnf
 rw[e5]
 conv=>whnf
 refine callV_pure rc ⟨.fr rfl,trivial⟩ ?_
 conv=>whnf
 refine⟨_,[],fun h nx _=>pureV_pure cp ⟨.fr rfl,trivial⟩,by simp,?_⟩
 conv=>whnf
 refine⟨by kernel_rfl,?_⟩
 conv=>whnf
 exact⟨.tup [.ptr 0 0,.int .i64 0],[(0,some (.var true 121 (cellsIn own pe pol [])))],1,(Ends.all (renOf [(0,3)]) [2] (by repeat' (first|exact LHa|exact Or.inl ⟨by decide,_,rfl,id,rfl,.fr rfl,.fr rfl,.fr rfl,.fr rfl,.fr rfl,.fr rfl,.fr rfl,LeV.freezeM (by simp) rfl rfl (by simp),trivial⟩|exact .tupL ⟨.ptr rfl (by omega),.fr rfl,trivial⟩|exact .A|exact LeL.fr rfl|exact LHb|refine Or.inl ⟨by simp,_,rfl,?_⟩|exact Or.inr ⟨by simp,_,_,_,_,rfl⟩|refine⟨rfl,rfl,rfl,rfl,rfl,rfl,?_⟩|refine⟨?_,?_⟩)) (show ∀b∈([0]:List Nat),∀b'∈([0]:List Nat),(renOf [(0,3)]) b=(renOf [(0,3)]) b'→b=b' by decide) (fun _ h=>by omega) (by omega) (by intro z hz;simp only[List.mem_cons,List.not_mem_nil,or_false]at hz;rcases hz with rfl<;>exact ne_none_of rfl)),rfl,rfl,rfl⟩
end
section
open Go.Proofs.Tryz (prog)
attribute [local irreducible] CallV RoundV aggK
theorem keys_erase {α:Type}:∀(l:List (Prefix × α)) (k:Nat),keysE (l.eraseIdx k)=(keysE l).eraseIdx k
 | [],_=>by simp[keysE]
 | p :: l,0=>by simp[keysE]
 | p :: l,k + 1=>by simpa[keysE]using keys_erase l k
theorem esA_erase:∀(l:List (Prefix × Attrs)) (k:Nat),(esA l).eraseIdx k=esA (l.eraseIdx k)
 | [],_=>by simp[esA]
 | p :: l,0=>by simp[esA]
 | p :: l,k + 1=>by simpa[esA]using esA_erase l k
theorem sortedA_ok (m:List (Prefix × Attrs)) (hb:m.length≤1000):PCon prog 105 [.imap false (esA m)] (encPs true (sortPs (keysE m))):=by
 refine callV_of (fn:=Go.Proofs.Tryz.f105) (body:=_) tab_ok mixed rfl rfl (by decide) (by simp[Go.Proofs.Tryz.f105]) ?_
 conv=>whnf
 refine callV_of (fn:=Go.Proofs.Tryz.f96) (body:=_) tab_ok mixed rfl rfl (by decide) (by simp[Go.Proofs.Tryz.f96]) ?_
 conv=>whnf
 refine⟨_,_,_,Ends.here,?_⟩
 conv=>whnf
 refine callV_of (fn:=Go.Proofs.Tryz.f95) (body:=_) tab_ok mixed rfl rfl (by decide) (by simp[Go.Proofs.Tryz.f95]) ?_
 conv=>whnf
 refine callV_of (fn:=Go.Proofs.Tryz.f142) (body:=_) tab_ok mixed rfl rfl (by decide) (by simp[Go.Proofs.Tryz.f142]) ?_
 conv=>whnf
 refine callV_of (fn:=Go.Proofs.Tryz.f172) (body:=_) tab_ok mixed rfl rfl (by decide) (by simp[Go.Proofs.Tryz.f172]) ?_
 conv=>whnf
 refine callV_loop [(2,.ptr 1 0)] ⟨rfl,trivial⟩ fun asg' body' hasg hbody=>?_
 refine callV_of (fn:=Go.Proofs.Tryz.f144) (body:=_) tab_ok mixed rfl rfl (by decide) (by simp[Go.Proofs.Tryz.f144]) ?_
 conv=>whnf
 refine vcg_loop tab_ok mixed (fun p:{p:List Prefix × List (Prefix × Attrs) // (p.1 ++ keysE p.2).Perm (keysE m)}=>⟨[(0,.yld 2),(5,.ptr 3 0)],[(2,some (.loop 13 [(2,.ptr 1 0)] [7] asg' body' .ready none)),(1,some (.var true 84 [.osl 4 2 0 p.1.1.length])),(3,some (.iter none (esA p.1.2))),(4,some (.arr true false 31 2 (rowsP p.1.1)))],5⟩) (fun p=>p.1.2.length) ⟨([],m),by simp⟩ ?_ (fun p=>?_)
 ·refine Wk.of id [] ⟨.yld rfl (by omega),.ptr rfl (by omega),trivial⟩ (LeH.of ⟨⟨by omega,.inl ⟨by simp,_,rfl,rfl,rfl,rfl,rfl,rfl,rfl,.ptr rfl (by omega),trivial⟩⟩,⟨by omega,.inl ⟨by simp,_,rfl,id,rfl,.osl0,trivial⟩⟩,⟨by omega,.inl ⟨by simp,_,rfl,LeB.iter rfl (esA_free _)⟩⟩,⟨by omega,.inr ⟨by simp,_,_,_,_,rfl⟩⟩,trivial⟩ (fun _ _ _ _ h=>h) (fun _ _=>rfl) (by omega) (by simp))
 obtain⟨⟨xs,rest⟩,hp⟩:=p
 conv=>whnf
 refine⟨fun h0=>?_,fun k kv hk=>?_⟩
 ·have h0:rest=[]:=by simpa[esA]using h0
  subst h0
  rw[show keysE ([]:List (Prefix × Attrs))=[]from rfl,List.append_nil]at hp
  conv=>whnf
  refine⟨_,_,_,Ends.here,?_⟩
  conv=>whnf
  refine⟨_,_,_,Ends.here,?_⟩
  conv=>whnf
  refine⟨_,_,_,Ends.here,?_⟩
  conv=>whnf
  have hxl:xs.length≤1000:=by
   have h1:xs.length=(keysE m).length:=hp.length_eq
   have h2:(keysE m).length=m.length:=by simp[keysE]
   omega
  refine callV_frame (nx:=5) (n0:=1) (renOf [(0,4)]) (sortF_ok true false xs (by omega)) (by repeat' (first|exact True.intro|exact .osl_of rfl (by omega) rfl|exact .free (.fn (by simp) (by simp))|exact LeB.arrE rfl (rowsP_free _) id id|exact .A|exact LeL.fr rfl|refine⟨?_,?_⟩)) (LeH.of (by repeat' (first|exact LHa|exact .osl_of rfl (by omega) rfl|exact .free (.fn (by simp) (by simp))|exact LeB.arrE rfl (rowsP_free _) id id|exact .A|exact LeL.fr rfl|exact LHb|refine Or.inl ⟨by simp,_,rfl,?_⟩|exact Or.inr ⟨by simp,_,_,_,_,rfl⟩|refine⟨rfl,rfl,rfl,rfl,rfl,rfl,?_⟩|refine⟨?_,?_⟩)) (show ∀b∈([0]:List Nat),∀b'∈([0]:List Nat),(renOf [(0,4)]) b=(renOf [(0,4)]) b'→b=b' by decide) (fun _ h=>by omega) (by omega) (by simp)) (fun b hb=>by match b,hb with|0,_=>exact ne_none_of rfl) (by decide) ?_
  rintro v h' nx' ⟨rfl,rfl,rfl⟩ _
  refine⟨.tup [],[(4,some (.arr true false 31 2 (rowsP (sortPs xs))))],.free (.tup (by simp)),(by repeat' (first|exact True.intro|exact Or.inr ⟨by decide,rfl⟩|exact Or.inl ⟨0,rfl,by omega,_,rfl,RenB.arr (rowsP_free _)⟩|refine⟨?_,?_⟩)),?_⟩
  conv=>whnf
  refine⟨_,_,_,Ends.here,?_⟩
  conv=>whnf
  have hs:sortPs xs=sortPs (keysE m):=sortPs_perm (by simpa using hp)
  exact Ends.pure [4] (LeV.freeze_of (by simp) rfl (by simp[sortPs_len]) (rowsP_free _) (by rw[hs];exact List.take_of_length_le (by simp[sortPs_len,← hs]))) (one_none rfl)
 ·obtain⟨p,hpk,rfl⟩:∃p,rest[k]? = some p∧kv=(encP p.1,encA false p.2):=by
   simp only[esA,List.getElem?_map,Option.map_eq_some_iff]at hk
   obtain⟨p,h1,h2⟩:=hk
   exact⟨p,h1,h2.symm⟩
  conv=>whnf
  subst hasg hbody
  refine roundV_of tab_ok mixed rfl (by simp) (show 2 < 6 by omega) ?_
  conv=>whnf
  have hlen:xs.length + 1≤1000:=by
   have h1:=hp.length_eq
   have h2:(keysE m).length=m.length:=by simp[keysE]
   have h3:k < rest.length:=(List.getElem?_eq_some_iff.1 hpk).1
   simp only[List.length_append,keysE,List.length_map]at h1 h2
   omega
  refine⟨rfl,by first|rfl|(simp;done),by first|rfl|(simp;done),⟨rfl,rfl,rfl,rfl,by decide⟩,by simp[rowsP],⟨by simp[tab,tabOf,nth];omega,by simp;omega⟩,?_⟩
  conv=>whnf
  refine⟨rfl,?_⟩
  conv=>whnf
  have hperm:((xs ++ [p.1])++ keysE (rest.eraseIdx k)).Perm (keysE m):=by
    have h1:(keysE rest)[k]? = some p.1:=by simp[keysE,hpk]
    have h2:keysE (rest.eraseIdx k)=(keysE rest).eraseIdx k:=keys_erase rest k
    rw[h2]
    exact(perm_step h1).trans hp
  refine⟨⟨(xs ++ [p.1],rest.eraseIdx k),hperm⟩,Wk.of (renOf [(4,8)]) [] ⟨.yld rfl (by omega),.ptr rfl (by omega),trivial⟩ (LeH.of ⟨⟨by omega,.inl ⟨by simp,_,rfl,rfl,rfl,rfl,rfl,rfl,rfl,.ptr rfl (by omega),trivial⟩⟩,⟨by omega,.inl ⟨by simp,_,rfl,id,rfl,.osl_of rfl (by omega) (by simp),trivial⟩⟩,⟨by omega,.inl ⟨by simp,_,rfl,LeB.iter (esA_erase rest k) (fun kv h=>esA_free _ kv (List.mem_of_mem_eraseIdx h))⟩⟩,⟨by omega,.inl ⟨by simp,_,rfl,LeB.arrE (by simp[rowsP];exact⟨List.take_of_length_le (by simp),rfl⟩) (fun x hx v hv=>by
   rcases List.mem_append.1 hx with h|h
   ·exact rowsP_free xs x (List.mem_of_mem_take h) v hv
   ·simp at h;subst h;simp at hv;rcases hv with rfl|rfl<;>exact .int) id id⟩⟩,trivial⟩ (show ∀b∈([2,1,3,4]:List Nat),∀b'∈([2,1,3,4]:List Nat),renOf [(4,8)] b=renOf [(4,8)] b'→b=b' by decide) (show ∀b,b < 3→renOf [(4,8)] b=b by decide) (by omega) (by simp)),?_⟩
  show(rest.eraseIdx k).length < rest.length
  have:=(List.getElem?_eq_some_iff.1 hpk).1
  rw[List.length_eraseIdx]
  split<;>omega
end
section
open Go.Proofs.Tryz (prog)
attribute [local irreducible] CallV RoundV aggK
def byR (pol:Policy) (own:UInt32) (p:Prefix) (a:Attrs):Attrs × Bool:=if byE pol own p a ≠ 0 then(noA,false)else(byA pol own p a,byOk pol own p a)
theorem byV_R (fr:Bool) (pol:Policy) (own:UInt32) (p:Prefix) (a:Attrs):byV fr pol own p a=.tup [encA fr (byR pol own p a).1,.bool (byR pol own p a).2,.int .i64 (byE pol own p a)]:=by
 unfold byV byR
 by_cases h:byE pol own p a=0
 ·rw[if_neg (by simp[h]),if_neg (by simp[h]),h]
 ·rw[if_pos h,if_pos h]
def outA (pe:Peer) (a:Attrs):Attrs:=if pe.inner then a else { a with hasPref:=false,pref:=0 }
def isC (own:UInt32) (pe:Peer) (pol:Policy) (p:Prefix) (a:Attrs):Nat→Bool
 | 0=>true
 | 1=>!hasA a.path own
 | 2=>!hasA a.path own && (pe.inner || decide (firstOf a=pe.sys))
 | _=>!hasA a.path own && (pe.inner || decide (firstOf a=pe.sys))&& (byR pol own p (outA pe a)).2
def curC (own:UInt32) (pe:Peer) (pol:Policy) (p:Prefix) (a:Attrs):Nat→Attrs
 | 0=>a
 | 1=>a
 | 2=>a
 | _=>if isC own pe pol p a 2 then(byR pol own p (outA pe a)).1 else a
def cnt (own:UInt32) (pe:Peer) (pol:Policy) (p:Prefix) (a:Attrs):Option Attrs:=if isC own pe pol p a 3 then some (byR pol own p (outA pe a)).1 else none
def zeroC:List V:=[.int .u8 0,.snil,.int .u32 0,.bool false,.int .u32 0,.bool false,.int .u32 0,.snil]
def stepRows:List (List V):=[[.fn (.func 226) [] [.ptr 4 0]],[.fn (.func 228) [] [.ptr 4 0]],[.fn (.func 230) [] [.ptr 4 0]]]
theorem stepRows_le {h:Heap} {nx nx':Nat} {Z:List Nat} (hn:5 < nx'):LeR h nx id nx' Z stepRows stepRows:=
 ⟨⟨.fnL trivial ⟨.ptr rfl (by omega),trivial⟩,trivial⟩,⟨.fnL trivial ⟨.ptr rfl (by omega),trivial⟩,trivial⟩,⟨.fnL trivial ⟨.ptr rfl (by omega),trivial⟩,trivial⟩,trivial⟩
def optV (fr:Bool) (o:Option Attrs):V:=.tup [encA fr (o.getD noA),.bool o.isSome]
def smallA (a:Attrs):Prop:=a.path.length≤1000∧(∀p∈a.path,p.ns.length≤1000)∧a.tags.length≤1000
theorem look_some {m:List (Prefix × Attrs)} {p:Prefix} {a:Attrs} (h:getE m p=some a):MVal (esA m) (encP p) (some (encA false a)):=by
 obtain⟨i,hi⟩:=List.getElem?_of_mem (getE_mem h)
 exact⟨i,by simp[esA,hi]⟩
theorem look_none {m:List (Prefix × Attrs)} {p:Prefix} (h:getE m p=none):MVal (esA m) (encP p) none:=by
 intro kv hkv e
 obtain⟨x,hx,rfl⟩:=List.mem_map.1 hkv
 exact getE_none.1 h (List.mem_map.2 ⟨x,hx,encP_inj e⟩)
theorem count_none (own:UInt32) (pe:Peer) (pol:Policy) (m:List (Prefix × Attrs)) (p:Prefix) (h:getE m p=none):InC 148 [.ptr 0 0,encP p] (cellsIn own pe pol m) (cellsIn own pe pol m) (·=optV true none):=by
 unfold InC
 refine callV_of (fn:=Go.Proofs.Tryz.f148) (body:=_) tab_ok mixed rfl rfl (by decide) (by simp[Go.Proofs.Tryz.f148]) ?_
 conv=>whnf
 refine⟨esA_keys m,keyP p,none,look_none h,?_⟩
 conv=>whnf
 refine⟨by kernel_rfl,?_⟩
 conv=>whnf
 refine callV_of (fn:=Go.Proofs.Tryz.f177) (body:=_) tab_ok mixed rfl rfl (by decide) (by simp[Go.Proofs.Tryz.f177]) ?_
 conv=>whnf
 refine⟨_,_,_,Ends.here,?_⟩
 conv=>whnf
 intro _
 conv=>whnf
 refine vcg_loop tab_ok mixed (fun k:{k:Nat // k≤3}=>⟨[(3,.ptr 1 0),(4,.ptr 2 0),(6,.ptr 3 0),(7,.bool false),(20,.osl 5 1 0 3),(21,.int .i64 3),(22,cI k.1)],[(0,some (.var true 121 (cellsIn own pe pol m))),(1,some (.var true 31 (cellsP p))),(2,some (.var true 35 zeroC)),(3,some (.var true 35 zeroC)),(4,some (.var true 78 [.ptr 0 0])),(5,some (.arr true true 239 1 stepRows))],6⟩) (fun k=>3 - k.1) ⟨0,by omega⟩ (Wk.i (by repeat' (first|exact LHa|exact⟨id,id,rfl,rfl,LeR.out (stepRows_le (by omega))⟩|exact LeL.freeV (cellsIn_free own pe pol m)|exact .A|exact LeL.fr rfl|exact LHb|refine Or.inl ⟨by simp,_,rfl,?_⟩|exact Or.inr ⟨by simp,_,_,_,_,rfl⟩|refine⟨rfl,rfl,rfl,rfl,rfl,rfl,?_⟩|refine⟨?_,?_⟩)) (by omega)) (fun k=>?_)
 obtain⟨k,hk⟩:=k
 have hk':k=0∨k=1∨k=2∨k=3:=by omega
 rcases hk' with rfl|rfl|rfl|rfl
 ·conv=>whnf
  refine⟨rfl,⟨by simp,by simp⟩,?_⟩
  conv=>whnf
  refine⟨rfl,_,rfl,?_⟩
  conv=>whnf
  exact⟨⟨1,by omega⟩,(Wk.i (by repeat' (first|exact LHa|exact⟨id,id,rfl,rfl,LeR.out (stepRows_le (by omega))⟩|exact LeL.freeV (cellsIn_free own pe pol m)|exact .A|exact LeL.fr rfl|exact LHb|refine Or.inl ⟨by simp,_,rfl,?_⟩|exact Or.inr ⟨by simp,_,_,_,_,rfl⟩|refine⟨rfl,rfl,rfl,rfl,rfl,rfl,?_⟩|refine⟨?_,?_⟩)) (by omega)),by simp only;omega⟩
 ·conv=>whnf
  refine⟨rfl,⟨by simp,by simp⟩,?_⟩
  conv=>whnf
  refine⟨rfl,_,rfl,?_⟩
  conv=>whnf
  exact⟨⟨2,by omega⟩,(Wk.i (by repeat' (first|exact LHa|exact⟨id,id,rfl,rfl,LeR.out (stepRows_le (by omega))⟩|exact LeL.freeV (cellsIn_free own pe pol m)|exact .A|exact LeL.fr rfl|exact LHb|refine Or.inl ⟨by simp,_,rfl,?_⟩|exact Or.inr ⟨by simp,_,_,_,_,rfl⟩|refine⟨rfl,rfl,rfl,rfl,rfl,rfl,?_⟩|refine⟨?_,?_⟩)) (by omega)),by simp only;omega⟩
 ·conv=>whnf
  refine⟨rfl,⟨by simp,by simp⟩,?_⟩
  conv=>whnf
  refine⟨rfl,_,rfl,?_⟩
  conv=>whnf
  exact⟨⟨3,by omega⟩,(Wk.i (by repeat' (first|exact LHa|exact⟨id,id,rfl,rfl,LeR.out (stepRows_le (by omega))⟩|exact LeL.freeV (cellsIn_free own pe pol m)|exact .A|exact LeL.fr rfl|exact LHb|refine Or.inl ⟨by simp,_,rfl,?_⟩|exact Or.inr ⟨by simp,_,_,_,_,rfl⟩|refine⟨rfl,rfl,rfl,rfl,rfl,rfl,?_⟩|refine⟨?_,?_⟩)) (by omega)),by simp only;omega⟩
 ·conv=>whnf
  exact⟨optV true none,[(0,some (.var true 121 (cellsIn own pe pol m)))],1,(Ends.all id [] (by repeat' (first|exact LHa|exact LeL.freeV (cellsIn_free own pe pol m)|exact .tupL ⟨.noA,.fr rfl,trivial⟩|exact .A|exact LeL.fr rfl|exact LHb|refine Or.inl ⟨by simp,_,rfl,?_⟩|exact Or.inr ⟨by simp,_,_,_,_,rfl⟩|refine⟨rfl,rfl,rfl,rfl,rfl,rfl,?_⟩|refine⟨?_,?_⟩)) (fun _ _ _ _ h=>h) (fun _ _=>rfl) (by omega) (by simp)),rfl,rfl,rfl⟩
theorem cellsA_off {h:Heap} {nx nx':Nat} {ρ:Nat→Nat} {Z:List Nat} {a:Attrs}:LeL h nx ρ nx' Z (cellsA true a) (cellsA false a):=
 ⟨.fr rfl,(LeV.fr rfl).less Less.legs,.fr rfl,.fr rfl,.fr rfl,.fr rfl,.fr rfl,(LeV.fr rfl).less Less.encW,trivial⟩
theorem count_some (own:UInt32) (pe:Peer) (pol:Policy) (m:List (Prefix × Attrs)) (p:Prefix) (a:Attrs) (h:getE m p=some a) (hs:smallA a) (hs2:∀b,cnt own pe pol p a=some b→smallA b) :
  InC 148 [.ptr 0 0,encP p] (cellsIn own pe pol m) (cellsIn own pe pol m) (·=optV true (cnt own pe pol p a)):=by
 obtain⟨s1,s2,s3⟩:=hs
 have hh:=has_ok false a own s1 s2 s3
 have hf:=first_ok false a
 have hb:=by_ok false false pol own p (outA pe a)
 rw[byV_R]at hb
 unfold InC
 refine callV_of (fn:=Go.Proofs.Tryz.f148) (body:=_) tab_ok mixed rfl rfl (by decide) (by simp[Go.Proofs.Tryz.f148]) ?_
 conv=>whnf
 refine⟨esA_keys m,keyP p,some (encA false a),look_some h,?_⟩
 conv=>whnf
 refine⟨by kernel_rfl,?_⟩
 conv=>whnf
 refine callV_of (fn:=Go.Proofs.Tryz.f177) (body:=_) tab_ok mixed rfl rfl (by decide) (by simp[Go.Proofs.Tryz.f177]) ?_
 conv=>whnf
 refine⟨_,_,_,Ends.here,?_⟩
 conv=>whnf
 intro _
 conv=>whnf
 refine vcg_loop tab_ok mixed (fun k:{k:Nat // k≤3}=>⟨[(3,.ptr 1 0),(4,.ptr 2 0),(6,.ptr 3 0),(7,.bool (isC own pe pol p a k.1)),(20,.osl 5 1 0 3),(21,.int .i64 3),(22,cI k.1)],[(0,some (.var true 121 (cellsIn own pe pol m))),(1,some (.var true 31 (cellsP p))),(2,some (.var true 35 zeroC)),(3,some (.var true 35 (cellsA false (curC own pe pol p a k.1)))),(4,some (.var true 78 [.ptr 0 0])),(5,some (.arr true true 239 1 stepRows))],6⟩) (fun k=>3 - k.1) ⟨0,by omega⟩ (Wk.i (by repeat' (first|exact LHa|exact⟨id,id,rfl,rfl,LeR.out (stepRows_le (by omega))⟩|exact LeL.freeV (cellsIn_free own pe pol m)|exact LeL.freeV (cellsA_free _ _)|exact .A|exact LeL.fr rfl|exact LHb|refine Or.inl ⟨by simp,_,rfl,?_⟩|exact Or.inr ⟨by simp,_,_,_,_,rfl⟩|refine⟨rfl,rfl,rfl,rfl,rfl,rfl,?_⟩|refine⟨?_,?_⟩)) (by omega)) (fun k=>?_)
 obtain⟨k,hk⟩:=k
 have hk':k=0∨k=1∨k=2∨k=3:=by omega
 rcases hk' with rfl|rfl|rfl|rfl
 ·conv=>whnf
  refine⟨rfl,⟨by simp,by simp⟩,?_⟩
  conv=>whnf
  refine⟨rfl,_,rfl,?_⟩
  conv=>whnf
  refine callV_of (fn:=Go.Proofs.Tryz.f226) (body:=_) tab_ok mixed rfl rfl (by decide) (by simp[Go.Proofs.Tryz.f226]) ?_
  conv=>whnf
  refine⟨_,[],fun h nx _=>pureV_pure hh ⟨.fr rfl,.fr rfl,trivial⟩,by simp,?_⟩
  conv=>whnf
  refine⟨by kernel_rfl,?_⟩
  conv=>whnf
  refine⟨_,_,_,Ends.here,?_⟩
  conv=>whnf
  exact⟨⟨1,by omega⟩,(Wk.i (by repeat' (first|exact LHa|exact⟨id,id,rfl,rfl,LeR.out (stepRows_le (by omega))⟩|exact LeL.freeV (cellsIn_free own pe pol m)|exact .bool_of rfl|exact LeL.freeV (cellsA_free _ _)|exact .A|exact LeL.fr rfl|exact LHb|refine Or.inl ⟨by simp,_,rfl,?_⟩|exact Or.inr ⟨by simp,_,_,_,_,rfl⟩|refine⟨rfl,rfl,rfl,rfl,rfl,rfl,?_⟩|refine⟨?_,?_⟩)) (by omega)),by simp only;omega⟩
 ·cases h1:isC own pe pol p a 1 with
  | false=>
   conv=>whnf
   refine⟨rfl,⟨by simp,by simp⟩,?_⟩
   conv=>whnf
   refine⟨rfl,_,rfl,?_⟩
   conv=>whnf
   exact⟨⟨2,by omega⟩,(Wk.i (by repeat' (first|exact LHa|exact⟨id,id,rfl,rfl,LeR.out (stepRows_le (by omega))⟩|exact LeL.freeV (cellsIn_free own pe pol m)|exact .bool_of (by simp only[isC]at h1 ⊢;simp[h1])|exact LeL.freeV (cellsA_free _ _)|exact .A|exact LeL.fr rfl|exact LHb|refine Or.inl ⟨by simp,_,rfl,?_⟩|exact Or.inr ⟨by simp,_,_,_,_,rfl⟩|refine⟨rfl,rfl,rfl,rfl,rfl,rfl,?_⟩|refine⟨?_,?_⟩)) (by omega)),by simp only;omega⟩
  | true=>
   conv=>whnf
   refine⟨rfl,⟨by simp,by simp⟩,?_⟩
   conv=>whnf
   refine⟨rfl,_,rfl,?_⟩
   conv=>whnf
   refine callV_of (fn:=Go.Proofs.Tryz.f228) (body:=_) tab_ok mixed rfl rfl (by decide) (by simp[Go.Proofs.Tryz.f228]) ?_
   conv=>whnf
   have hq:hasA a.path own=false:=by simp only[isC]at h1;simpa using h1
   cases hi:pe.inner with
   | true=>
    conv=>whnf
    refine⟨by kernel_rfl,?_⟩
    conv=>whnf
    refine⟨_,_,_,Ends.here,?_⟩
    conv=>whnf
    exact⟨⟨2,by omega⟩,(Wk.i (by repeat' (first|exact LHa|exact⟨id,id,rfl,rfl,LeR.out (stepRows_le (by omega))⟩|exact LeL.freeV (cellsIn_free own pe pol m)|exact .bool_of (by simp[isC,hq,hi])|exact LeL.freeV (cellsA_free _ _)|exact .A|exact LeL.fr rfl|exact LHb|refine Or.inl ⟨by simp,_,rfl,?_⟩|exact Or.inr ⟨by simp,_,_,_,_,rfl⟩|refine⟨rfl,rfl,rfl,rfl,rfl,rfl,?_⟩|refine⟨?_,?_⟩)) (by omega)),by simp only;omega⟩
   | false=>
    conv=>whnf
    refine⟨_,[],fun h nx _=>pureV_pure hf ⟨.fr rfl,trivial⟩,by simp,?_⟩
    conv=>whnf
    refine⟨by kernel_rfl,?_⟩
    conv=>whnf
    refine⟨_,_,_,Ends.here,?_⟩
    conv=>whnf
    exact⟨⟨2,by omega⟩,(Wk.i (by repeat' (first|exact LHa|exact⟨id,id,rfl,rfl,LeR.out (stepRows_le (by omega))⟩|exact LeL.freeV (cellsIn_free own pe pol m)|exact .bool_of (by simp[isC,hq,hi,beqW])|exact LeL.freeV (cellsA_free _ _)|exact .A|exact LeL.fr rfl|exact LHb|refine Or.inl ⟨by simp,_,rfl,?_⟩|exact Or.inr ⟨by simp,_,_,_,_,rfl⟩|refine⟨rfl,rfl,rfl,rfl,rfl,rfl,?_⟩|refine⟨?_,?_⟩)) (by omega)),by simp only;omega⟩
 ·cases h2:isC own pe pol p a 2 with
  | false=>
   have e3:curC own pe pol p a 3=a:=by simp only[curC,h2];simp
   conv=>whnf
   refine⟨rfl,⟨by simp,by simp⟩,?_⟩
   conv=>whnf
   refine⟨rfl,_,rfl,?_⟩
   conv=>whnf
   exact⟨⟨3,by omega⟩,(Wk.i (by repeat' (first|exact LHa|exact⟨id,id,rfl,rfl,LeR.out (stepRows_le (by omega))⟩|exact LeL.freeV (cellsIn_free own pe pol m)|exact .bool_of (by simp only[isC]at h2 ⊢;simp[h2])|exact(by rw[e3];exact LeL.freeV (cellsA_free _ _))|exact .A|exact LeL.fr rfl|exact LHb|refine Or.inl ⟨by simp,_,rfl,?_⟩|exact Or.inr ⟨by simp,_,_,_,_,rfl⟩|refine⟨rfl,rfl,rfl,rfl,rfl,rfl,?_⟩|refine⟨?_,?_⟩)) (by omega)),by simp only;omega⟩
  | true=>
   have e3:curC own pe pol p a 3=(byR pol own p (outA pe a)).1:=by simp only[curC,h2];simp
   have b3:isC own pe pol p a 3=(byR pol own p (outA pe a)).2:=by
    simp only[isC]at h2 ⊢
    rw[h2];simp
   conv=>whnf
   refine⟨rfl,⟨by simp,by simp⟩,?_⟩
   conv=>whnf
   refine⟨rfl,_,rfl,?_⟩
   conv=>whnf
   refine callV_of (fn:=Go.Proofs.Tryz.f230) (body:=_) tab_ok mixed rfl rfl (by decide) (by simp[Go.Proofs.Tryz.f230]) ?_
   conv=>whnf
   cases hi:pe.inner with
   | true=>
    have ho:outA pe a=a:=by simp[outA,hi]
    rw[ho]at hb e3 b3
    conv=>whnf
    refine⟨_,[],fun h nx _=>pureV_pure hb ⟨.fr rfl,.fr rfl,.fr rfl,.fr rfl,trivial⟩,by simp,?_⟩
    conv=>whnf
    refine⟨by kernel_rfl,?_⟩
    conv=>whnf
    refine⟨_,_,_,Ends.here,?_⟩
    conv=>whnf
    exact⟨⟨3,by omega⟩,(Wk.i (by repeat' (first|exact LHa|exact⟨id,id,rfl,rfl,LeR.out (stepRows_le (by omega))⟩|exact LeL.freeV (cellsIn_free own pe pol m)|exact .bool_of b3.symm|exact(by rw[e3];exact cellsA_off)|exact .A|exact LeL.fr rfl|exact LHb|refine Or.inl ⟨by simp,_,rfl,?_⟩|exact Or.inr ⟨by simp,_,_,_,_,rfl⟩|refine⟨rfl,rfl,rfl,rfl,rfl,rfl,?_⟩|refine⟨?_,?_⟩)) (by omega)),by simp only;omega⟩
   | false=>
    have ho:outA pe a={ a with hasPref:=false,pref:=0 }:=by simp[outA,hi]
    rw[ho]at hb e3 b3
    conv=>whnf
    refine⟨_,[],fun h nx _=>pureV_pure hb ⟨.fr rfl,.fr rfl,.fr rfl,.fr rfl,trivial⟩,by simp,?_⟩
    conv=>whnf
    refine⟨by kernel_rfl,?_⟩
    conv=>whnf
    refine⟨_,_,_,Ends.here,?_⟩
    conv=>whnf
    exact⟨⟨3,by omega⟩,(Wk.i (by repeat' (first|exact LHa|exact⟨id,id,rfl,rfl,LeR.out (stepRows_le (by omega))⟩|exact LeL.freeV (cellsIn_free own pe pol m)|exact .bool_of b3.symm|exact(by rw[e3];exact cellsA_off)|exact .A|exact LeL.fr rfl|exact LHb|refine Or.inl ⟨by simp,_,rfl,?_⟩|exact Or.inr ⟨by simp,_,_,_,_,rfl⟩|refine⟨rfl,rfl,rfl,rfl,rfl,rfl,?_⟩|refine⟨?_,?_⟩)) (by omega)),by simp only;omega⟩
 ·cases h3:isC own pe pol p a 3 with
  | false=>
   have e:cnt own pe pol p a=none:=by rw[cnt,h3];rfl
   rw[e]
   conv=>whnf
   exact⟨optV true none,[(0,some (.var true 121 (cellsIn own pe pol m)))],1,(Ends.all id [] (by repeat' (first|exact LHa|exact LeL.freeV (cellsIn_free own pe pol m)|exact .tupL ⟨.noA,.fr rfl,trivial⟩|exact .A|exact LeL.fr rfl|exact LHb|refine Or.inl ⟨by simp,_,rfl,?_⟩|exact Or.inr ⟨by simp,_,_,_,_,rfl⟩|refine⟨rfl,rfl,rfl,rfl,rfl,rfl,?_⟩|refine⟨?_,?_⟩)) (fun _ _ _ _ h=>h) (fun _ _=>rfl) (by omega) (by simp)),rfl,rfl,rfl⟩
  | true=>
   have e2:isC own pe pol p a 2=true:=by
    simp only[isC]at h3 ⊢
    rw[Bool.and_eq_true]at h3
    exact h3.1
   have e3:curC own pe pol p a 3=(byR pol own p (outA pe a)).1:=by simp only[curC,e2];simp
   have e:cnt own pe pol p a=some (curC own pe pol p a 3):=by rw[cnt,h3,e3];rfl
   obtain⟨q1,q2,q3⟩:=hs2 _ e
   have hc:=copy_pure false (curC own pe pol p a 3) q1 q2 q3
   rw[e]
   generalize curC own pe pol p a 3=c at hc
   conv=>whnf
   refine callV_pure hc ⟨.fr rfl,trivial⟩ ?_
   conv=>whnf
   exact⟨optV true (some c),[(0,some (.var true 121 (cellsIn own pe pol m)))],1,(Ends.all id [] (by repeat' (first|exact LHa|exact LeL.freeV (cellsIn_free own pe pol m)|exact .tupL ⟨.fr rfl,.fr rfl,trivial⟩|exact .A|exact LeL.fr rfl|exact LHb|refine Or.inl ⟨by simp,_,rfl,?_⟩|exact Or.inr ⟨by simp,_,_,_,_,rfl⟩|refine⟨rfl,rfl,rfl,rfl,rfl,rfl,?_⟩|refine⟨?_,?_⟩)) (fun _ _ _ _ h=>h) (fun _ _=>rfl) (by omega) (by simp)),rfl,rfl,rfl⟩
end
section
open Go.Proofs.Tryz (prog)
attribute [local irreducible] CallV RoundV aggK
theorem LeB.mapPut {h:Heap} {nx nx':Nat} {ρ:Nat→Nat} {Z:List Nat} {out:List (Prefix × Attrs)} {p:Prefix} {b:Attrs} :
  LeB h nx ρ nx' Z (.map (mput (esA out) (encP p) (encA true b) none)) (.map (esA (out ++ [(p,b)]))):=by
 refine⟨by simp[mput,esA],fun j kv kv' h1 h2=>?_⟩
 simp only[mput,esA,List.map_append,List.map_cons,List.map_nil]at h1 h2
 rcases Nat.lt_or_ge j (List.map (fun e:Prefix × Attrs=>(encP e.1,encA false e.2)) out).length with hj|hj
 ·rw[List.getElem?_append_left hj]at h1 h2
  rw[h1]at h2
  cases h2
  have:=esA_free out kv (List.mem_of_getElem? h1)
  exact⟨.free this.1,.free this.2⟩
 ·rw[List.getElem?_append_right hj]at h1 h2
  have hz:j - (List.map (fun e:Prefix × Attrs=>(encP e.1,encA false e.2)) out).length=0:=by
   have:=(List.getElem?_eq_some_iff.1 h1).1
   simp only[List.length_cons,List.length_nil]at this
   omega
  rw[hz]at h1 h2
  simp only[List.getElem?_cons_zero,Option.some.injEq]at h1 h2
  subst h1;subst h2
  exact⟨.free (encP_free _),(LeV.free (encA_free true b)).less (less_encA true)⟩
theorem put_new {out:List (Prefix × Attrs)} {p:Prefix} (h:p ∉ keysE out):MPos (esA out) (encP p) none:=by
 intro kv hkv e
 obtain⟨x,hx,rfl⟩:=List.mem_map.1 hkv
 exact h (List.mem_map.2 ⟨x,hx,encP_inj e⟩)
theorem perm_eraseA:∀{l:List (Prefix × Attrs)} {k:Nat} {p:Prefix × Attrs},l[k]? = some p→(p :: l.eraseIdx k).Perm l
 | [],_,_,h=>by simp at h
 | a :: l,0,p,h=>by simp at h;subst h;simp
 | a :: l,k + 1,p,h=>by
  have h:l[k]? = some p:=by simpa using h
  rw[List.eraseIdx_cons_succ]
  exact(List.Perm.swap a p _).trans ((perm_eraseA h).cons a)
theorem perm_stepA {xs rest:List (Prefix × Attrs)} {k:Nat} {p:Prefix × Attrs} (h:rest[k]? = some p):((xs ++ [p])++ rest.eraseIdx k).Perm (xs ++ rest):=by
 rw[List.append_assoc]
 refine List.Perm.append_left xs ?_
 exact perm_eraseA h
theorem cnt_snoc {c:Prefix→Attrs→Option Attrs} (xs:List (Prefix × Attrs)) (p:Prefix) (a:Attrs):cntE c (xs ++ [(p,a)])=cntE c xs ++ (match c p a with|none=>[]|some b=>[(p,b)]):=by
 simp only[cntE,List.filterMap_append]
 congr 1
 cases h:c p a<;>simp[h]
def okM (own:UInt32) (pe:Peer) (pol:Policy) (m:List (Prefix × Attrs)):Prop:=NodE m∧m.length≤400∧∀e∈m,smallA e.2∧∀b,cnt own pe pol e.1 e.2=some b→smallA b
theorem count_ok {own:UInt32} {pe:Peer} {pol:Policy} {m:List (Prefix × Attrs)} (hm:okM own pe pol m) (p:Prefix) :
  InC 148 [.ptr 0 0,encP p] (cellsIn own pe pol m) (cellsIn own pe pol m) (·=optV true ((getE m p).bind (cnt own pe pol p))):=by
 cases h:getE m p with
 | none=>exact count_none own pe pol m p h
 | some a=>
  obtain⟨h1,h2⟩:=hm.2.2 _ (getE_mem h)
  exact count_some own pe pol m p a h h1 h2
theorem counted_ok {own:UInt32} {pe:Peer} {pol:Policy} {m:List (Prefix × Attrs)} (hm:okM own pe pol m) :
  InC 102 [.ptr 0 0] (cellsIn own pe pol m) (cellsIn own pe pol m) (fun v=>∃m',v=.imap false (esA m')∧m'.Perm (cntE (cnt own pe pol) m)):=by
 unfold InC
 refine callV_of (fn:=Go.Proofs.Tryz.f102) (body:=_) tab_ok mixed rfl rfl (by decide) (by simp[Go.Proofs.Tryz.f102]) ?_
 conv=>whnf
 refine vcg_loop tab_ok mixed (fun q:{q:List (Prefix × Attrs) × List (Prefix × Attrs) // (q.1 ++ q.2).Perm m}=>⟨[(0,.ptr 0 0),(3,.mapp 1),(12,.ptr 2 0)],[(0,some (.var true 121 (cellsIn own pe pol m))),(1,some (.map (esA (cntE (cnt own pe pol) q.1.1)))),(2,some (.iter none (esA q.1.2)))],3⟩) (fun q=>q.1.2.length) ⟨([],m),by simp⟩ (Wk.i (by repeat' (first|exact LHa|exact LeL.freeV (cellsIn_free own pe pol m)|exact .mapp rfl (by omega)|exact LeB.map rfl (by simp)|exact LeB.iter rfl (esA_free _)|exact .A|exact LeL.fr rfl|exact LHb|refine Or.inl ⟨by simp,_,rfl,?_⟩|exact Or.inr ⟨by simp,_,_,_,_,rfl⟩|refine⟨rfl,rfl,rfl,rfl,rfl,rfl,?_⟩|refine⟨?_,?_⟩)) (by omega)) (fun q=>?_)
 obtain⟨⟨xs,rest⟩,hq⟩:=q
 conv=>whnf
 refine⟨fun h0=>?_,fun k kv hk=>?_⟩
 ·have h0:rest=[]:=by simpa[esA]using h0
  subst h0
  rw[List.append_nil]at hq
  conv=>whnf
  exact⟨.imap false (esA (cntE (cnt own pe pol) xs)),[(0,some (.var true 121 (cellsIn own pe pol m)))],1,(Ends.all id [1] (by repeat' (first|exact LHa|exact LeL.freeV (cellsIn_free own pe pol m)|exact LeV.freezeM (by simp) rfl rfl (esA_free _)|exact .A|exact LeL.fr rfl|exact LHb|refine Or.inl ⟨by simp,_,rfl,?_⟩|exact Or.inr ⟨by simp,_,_,_,_,rfl⟩|refine⟨rfl,rfl,rfl,rfl,rfl,rfl,?_⟩|refine⟨?_,?_⟩)) (fun _ _ _ _ h=>h) (fun _ _=>rfl) (by omega) (by intro z hz;simp only[List.mem_cons,List.not_mem_nil,or_false]at hz;rcases hz with rfl<;>exact ne_none_of rfl)),Exists.intro _ (And.intro rfl (perm_cnt hq)),rfl,rfl⟩
 ·obtain⟨⟨p,a⟩,hpk,rfl⟩:∃p,rest[k]? = some p∧kv=(encP p.1,encA false p.2):=by
   simp only[esA,List.getElem?_map,Option.map_eq_some_iff]at hk
   obtain⟨p,h1,h2⟩:=hk
   exact⟨p,h1,h2.symm⟩
  have hkx:p ∉ keysE (cntE (cnt own pe pol) xs):=fun hin=>by
   have h1:NodE (xs ++ rest):=hm.1.perm hq.symm
   have h2:p∈keysE xs:=(keys_cnt _ xs).subset hin
   have h3:p∈keysE rest:=List.mem_map.2 ⟨_,List.mem_of_getElem? hpk,rfl⟩
   unfold NodE keysE at h1
   rw[List.map_append,List.nodup_append]at h1
   exact h1.2.2 p h2 p h3 rfl
  have hg:getE m p=some a:=mem_getE hm.1 (hq.mem_iff.1 (List.mem_append_right _ (List.mem_of_getElem? hpk)))
  have hc:=count_ok hm p
  rw[hg]at hc
  have hperm:((xs ++ [(p,a)])++ rest.eraseIdx k).Perm m:=(perm_stepA hpk).trans hq
  have hlt:(rest.eraseIdx k).length < rest.length:=by
   have:=(List.getElem?_eq_some_iff.1 hpk).1
   rw[List.length_eraseIdx]
   split<;>omega
  conv=>whnf
  refine callV_in hc rfl (cellsIn_free _ _ _ _) (cellsIn_free _ _ _ _) ⟨.ptr rfl (by omega),.fr rfl,trivial⟩ ?_
  rintro v rfl
  refine⟨.tup (by simp;exact⟨encA_free _ _,.bool⟩),?_⟩
  show _
  cases hcn:cnt own pe pol p a with
  | none=>
   have hx:cntE (cnt own pe pol) (xs ++ [(p,a)])=cntE (cnt own pe pol) xs:=by rw[cnt_snoc,hcn];simp
   simp only[Option.bind_some,hcn]
   conv=>whnf
   exact⟨⟨(xs ++ [(p,a)],rest.eraseIdx k),hperm⟩,(Wk.i (by repeat' (first|exact LHa|exact LeL.freeV (cellsIn_free own pe pol m)|exact .mapp rfl (by omega)|exact LeB.map (by rw[hx]) (esA_free _)|exact LeB.iter (esA_erase rest k) (fun kv h=>esA_free _ kv (List.mem_of_mem_eraseIdx h))|exact .A|exact LeL.fr rfl|exact LHb|refine Or.inl ⟨by simp,_,rfl,?_⟩|exact Or.inr ⟨by simp,_,_,_,_,rfl⟩|refine⟨rfl,rfl,rfl,rfl,rfl,rfl,?_⟩|refine⟨?_,?_⟩)) (by omega)),hlt⟩
  | some b=>
   have hx:cntE (cnt own pe pol) (xs ++ [(p,a)])=cntE (cnt own pe pol) xs ++ [(p,b)]:=by rw[cnt_snoc,hcn]
   simp only[Option.bind_some,hcn]
   conv=>whnf
   refine⟨esA_keys _,keyP p,none,put_new hkx,?_⟩
   conv=>whnf
   exact⟨⟨(xs ++ [(p,a)],rest.eraseIdx k),hperm⟩,(Wk.i (by repeat' (first|exact LHa|exact LeL.freeV (cellsIn_free own pe pol m)|exact .mapp rfl (by omega)|exact(by rw[hx];exact LeB.mapPut)|exact LeB.iter (esA_erase rest k) (fun kv h=>esA_free _ kv (List.mem_of_mem_eraseIdx h))|exact .A|exact LeL.fr rfl|exact LHb|refine Or.inl ⟨by simp,_,rfl,?_⟩|exact Or.inr ⟨by simp,_,_,_,_,rfl⟩|refine⟨rfl,rfl,rfl,rfl,rfl,rfl,?_⟩|refine⟨?_,?_⟩)) (by omega)),hlt⟩
end
section
open Go.Proofs.Tryz (prog)
attribute [local irreducible] CallV RoundV aggK
theorem find_key {m:List (Prefix × Attrs)} {p:Prefix} (h:p∈keysE m):∃(i:Nat) (a:Attrs),m[i]? = some (p,a):=by
 obtain⟨x,hx,rfl⟩:=List.mem_map.1 h
 obtain⟨i,hi⟩:=List.getElem?_of_mem hx
 exact⟨i,x.2,hi⟩
theorem keys_set {m:List (Prefix × Attrs)} {i:Nat} {p:Prefix} {a b:Attrs} (h:m[i]? = some (p,a)):keysE (m.set i (p,b))=keysE m:=by
 simp only[keysE,List.map_set]
 exact set_self (by simp[h])
theorem put_any (m:List (Prefix × Attrs)) (p:Prefix) (b:Attrs):∃(r:Option Nat) (m':List (Prefix × Attrs)),MPos (esA m) (encP p) r∧mput (esA m) (encP p) (encA false b) r=esA m'∧(NodE m→NodE m')∧(∀q,q∈keysE m'↔q=p∨q∈keysE m)∧m'.length≤m.length + 1:=by
 by_cases h:p∈keysE m
 ·obtain⟨i,a,hi⟩:=find_key h
  refine⟨some i,m.set i (p,b),⟨encA false a,by simp[esA,hi]⟩,by simp[mput,esA,List.map_set],fun hn=>?_,fun q=>?_,by simp⟩
  ·unfold NodE;rw[keys_set hi];exact hn
  ·rw[keys_set hi]
   constructor
   ·exact .inr
   ·rintro (rfl|hq)
    ·exact h
    ·exact hq
 ·refine⟨none,m ++ [(p,b)],put_new h,by simp[mput,esA],fun hn=>?_,fun q=>?_,by simp⟩
  ·have:=nod_put (p:=p) (a:=b) hn
   rwa [putE,if_neg h]at this
  ·simp[keysE,or_comm]
def copyPost (a b m:List (Prefix × Attrs)):Prop:=(NodE a→NodE m)∧(∀q,q∈keysE m↔q∈keysE a∨q∈keysE b)∧m.length≤a.length + b.length
theorem mcopy_ok (a b:List (Prefix × Attrs)):CallV prog 104 [.mapp 0,.imap false (esA b)] [(0,some (.map (esA a)))] 1
  (fun v h nx=>v=.tup []∧(∃m,copyPost a b m∧h=[(0,some (.map (esA m)))])∧nx=1):=by
 refine callV_of (fn:=Go.Proofs.Tryz.f104) (body:=_) tab_ok mixed rfl rfl (by decide) (by simp[Go.Proofs.Tryz.f104]) ?_
 conv=>whnf
 refine vcg_loop tab_ok mixed (fun q:{q:List (Prefix × Attrs) × List (Prefix × Attrs) × List (Prefix × Attrs) // (q.1 ++ q.2.1).Perm b∧copyPost a q.1 q.2.2}=>⟨[(0,.mapp 0),(7,.ptr 1 0)],[(0,some (.map (esA q.1.2.2))),(1,some (.iter none (esA q.1.2.1)))],2⟩) (fun q=>q.1.2.1.length) ⟨([],b,a),by simp,id,by simp[keysE],by simp⟩ (Wk.i (by repeat' (first|exact LHa|exact .mapp rfl (by omega)|exact LeB.map rfl (esA_free _)|exact LeB.iter rfl (esA_free _)|exact .A|exact LeL.fr rfl|exact LHb|refine Or.inl ⟨by simp,_,rfl,?_⟩|exact Or.inr ⟨by simp,_,_,_,_,rfl⟩|refine⟨rfl,rfl,rfl,rfl,rfl,rfl,?_⟩|refine⟨?_,?_⟩)) (by omega)) (fun q=>?_)
 obtain⟨⟨xs,rest,m⟩,hq,hp⟩:=q
 conv=>whnf
 refine⟨fun h0=>?_,fun k kv hk=>?_⟩
 ·have h0:rest=[]:=by simpa[esA]using h0
  subst h0
  rw[List.append_nil]at hq
  have hp2:copyPost a b m:=⟨hp.1,fun q=>by rw[hp.2.1 q];have:q∈keysE xs↔q∈keysE b:=(hq.map fun e:Prefix × Attrs=>e.1).mem_iff;rw[this],by have:=hp.2.2;have:=hq.length_eq;simp only at *;omega⟩
  conv=>whnf
  exact⟨.tup [],[(0,some (.map (esA m)))],1,(Ends.all id [] (by repeat' (first|exact LHa|exact .mapp rfl (by omega)|exact LeB.map rfl (esA_free _)|exact .free (.tup (by simp))|exact .A|exact LeL.fr rfl|exact LHb|refine Or.inl ⟨by simp,_,rfl,?_⟩|exact Or.inr ⟨by simp,_,_,_,_,rfl⟩|refine⟨rfl,rfl,rfl,rfl,rfl,rfl,?_⟩|refine⟨?_,?_⟩)) (fun _ _ _ _ h=>h) (fun _ _=>rfl) (by omega) (by simp)),rfl,⟨m,hp2,rfl⟩,rfl⟩
 ·obtain⟨⟨p,c⟩,hpk,rfl⟩:∃p,rest[k]? = some p∧kv=(encP p.1,encA false p.2):=by
   simp only[esA,List.getElem?_map,Option.map_eq_some_iff]at hk
   obtain⟨p,h1,h2⟩:=hk
   exact⟨p,h1,h2.symm⟩
  have hperm:((xs ++ [(p,c)])++ rest.eraseIdx k).Perm b:=(perm_stepA hpk).trans hq
  have hlt:(rest.eraseIdx k).length < rest.length:=by
   have:=(List.getElem?_eq_some_iff.1 hpk).1
   rw[List.length_eraseIdx]
   split<;>omega
  obtain⟨r,m',h1,h2,h3,h4,h5⟩:=put_any m p c
  have hfr:∀kv∈mput (esA m) (encP p) (encA false c) r,Free kv.1∧Free kv.2:=by rw[h2];exact esA_free _
  have hp2:copyPost a (xs ++ [(p,c)]) m':=⟨fun hn=>h3 (hp.1 hn),fun q=>by rw[h4,hp.2.1];simp only[keysE,List.map_append,List.mem_append,List.map_cons,List.map_nil,List.mem_singleton];constructor<;>(intro h;rcases h with h|h|h<;>simp[h]),by have:=hp.2.2;simp only[List.length_append,List.length_cons,List.length_nil]at *;omega⟩
  conv=>whnf
  refine⟨esA_keys _,keyP p,r,h1,?_⟩
  conv=>whnf
  exact⟨⟨(xs ++ [(p,c)],rest.eraseIdx k,m'),hperm,hp2⟩,(Wk.i (by repeat' (first|exact LHa|exact .mapp rfl (by omega)|exact LeB.map h2 hfr|exact LeB.iter (esA_erase rest k) (fun kv h=>esA_free _ kv (List.mem_of_mem_eraseIdx h))|exact .A|exact LeL.fr rfl|exact LHb|refine Or.inl ⟨by simp,_,rfl,?_⟩|exact Or.inr ⟨by simp,_,_,_,_,rfl⟩|refine⟨rfl,rfl,rfl,rfl,rfl,rfl,?_⟩|refine⟨?_,?_⟩)) (by omega)),hlt⟩
end
section
open Go.Proofs.Tryz (prog)
attribute [local irreducible] CallV RoundV aggK
theorem len24_ok (own:UInt32) (pe:Peer) (pol:Policy) (m:List (Prefix × Attrs)):InC 30 [.ptr 0 0] (cellsIn own pe pol m) (cellsIn own pe pol m) (·=.int .i64 m.length):=by
 unfold InC
 refine callV_of (fn:=Go.Proofs.Tryz.f30) (body:=_) tab_ok mixed rfl rfl (by decide) (by simp[Go.Proofs.Tryz.f30]) ?_
 conv=>whnf
 refine callV_in (none_ok own pe pol m) rfl (cellsIn_free _ _ _ _) (cellsIn_free _ _ _ _) ⟨.ptr rfl (by omega),trivial⟩ ?_
 rintro v rfl
 refine⟨.bool,?_⟩
 show _
 conv=>whnf
 exact⟨.int .i64 m.length,[(0,some (.var true 121 (cellsIn own pe pol m)))],1,(Ends.all id [] (by repeat' (first|exact LHa|exact LeL.freeV (cellsIn_free own pe pol m)|exact .int_of (by simp[esA])|exact .A|exact LeL.fr rfl|exact LHb|refine Or.inl ⟨by simp,_,rfl,?_⟩|exact Or.inr ⟨by simp,_,_,_,_,rfl⟩|refine⟨rfl,rfl,rfl,rfl,rfl,rfl,?_⟩|refine⟨?_,?_⟩)) (fun _ _ _ _ h=>h) (fun _ _=>rfl) (by omega) (by simp)),rfl,rfl,rfl⟩
theorem said24_ok {own:UInt32} {pe:Peer} {pol:Policy} {m:List (Prefix × Attrs)} (hm:okM own pe pol m) (p:Prefix) :
  InC 31 [.ptr 0 0,encP p] (cellsIn own pe pol m) (cellsIn own pe pol m) (·=optV true (getE m p)):=by
 unfold InC
 cases hg:getE m p with
 | none=>
  have hc:=copy_pure true noA (by decide) (by decide) (by decide)
  refine callV_of (fn:=Go.Proofs.Tryz.f31) (body:=_) tab_ok mixed rfl rfl (by decide) (by simp[Go.Proofs.Tryz.f31]) ?_
  conv=>whnf
  refine callV_in (none_ok own pe pol m) rfl (cellsIn_free _ _ _ _) (cellsIn_free _ _ _ _) ⟨.ptr rfl (by omega),trivial⟩ ?_
  rintro v rfl
  refine⟨.bool,?_⟩
  show _
  conv=>whnf
  refine⟨esA_keys m,keyP p,none,look_none hg,?_⟩
  conv=>whnf
  refine⟨by kernel_rfl,?_⟩
  conv=>whnf
  refine callV_pure hc ⟨.noA,trivial⟩ ?_
  conv=>whnf
  exact⟨optV true none,[(0,some (.var true 121 (cellsIn own pe pol m)))],1,(Ends.all id [] (by repeat' (first|exact LHa|exact LeL.freeV (cellsIn_free own pe pol m)|exact .tupL ⟨.fr rfl,.fr rfl,trivial⟩|exact .A|exact LeL.fr rfl|exact LHb|refine Or.inl ⟨by simp,_,rfl,?_⟩|exact Or.inr ⟨by simp,_,_,_,_,rfl⟩|refine⟨rfl,rfl,rfl,rfl,rfl,rfl,?_⟩|refine⟨?_,?_⟩)) (fun _ _ _ _ h=>h) (fun _ _=>rfl) (by omega) (by simp)),rfl,rfl,rfl⟩
 | some a=>
  obtain⟨⟨s1,s2,s3⟩,_⟩:=hm.2.2 _ (getE_mem hg)
  have hc:=copy_pure false a s1 s2 s3
  refine callV_of (fn:=Go.Proofs.Tryz.f31) (body:=_) tab_ok mixed rfl rfl (by decide) (by simp[Go.Proofs.Tryz.f31]) ?_
  conv=>whnf
  refine callV_in (none_ok own pe pol m) rfl (cellsIn_free _ _ _ _) (cellsIn_free _ _ _ _) ⟨.ptr rfl (by omega),trivial⟩ ?_
  rintro v rfl
  refine⟨.bool,?_⟩
  show _
  conv=>whnf
  refine⟨esA_keys m,keyP p,some (encA false a),look_some hg,?_⟩
  conv=>whnf
  refine⟨by kernel_rfl,?_⟩
  conv=>whnf
  refine callV_pure hc ⟨.fr rfl,trivial⟩ ?_
  conv=>whnf
  exact⟨optV true (some a),[(0,some (.var true 121 (cellsIn own pe pol m)))],1,(Ends.all id [] (by repeat' (first|exact LHa|exact LeL.freeV (cellsIn_free own pe pol m)|exact .tupL ⟨.fr rfl,.fr rfl,trivial⟩|exact .A|exact LeL.fr rfl|exact LHb|refine Or.inl ⟨by simp,_,rfl,?_⟩|exact Or.inr ⟨by simp,_,_,_,_,rfl⟩|refine⟨rfl,rfl,rfl,rfl,rfl,rfl,?_⟩|refine⟨?_,?_⟩)) (fun _ _ _ _ h=>h) (fun _ _=>rfl) (by omega) (by simp)),rfl,rfl,rfl⟩
structure Route where
 pfx:Prefix
 attrs:Attrs
 peer:Peer
def cellsRt (fr:Bool) (r:Route):List V:=cellsP r.pfx ++ cellsA fr r.attrs ++ cellsPe r.peer
def encRt (fr:Bool) (r:Route):V:=.agg (cellsRt fr r)
theorem cellsRt_free (fr:Bool) (r:Route):∀v∈cellsRt fr r,Free v:=by
 intro v hv
 rcases List.mem_append.1 hv with h|h
 ·rcases List.mem_append.1 h with h|h
  ·exact cellsP_free _ v h
  ·exact cellsA_free _ _ v h
 ·exact(cellsPe_all _ v h).1
theorem encRt_free (fr:Bool) (r:Route):Free (encRt fr r):=.agg (cellsRt_free fr r)
instance {fr r}:FreeI (encRt fr r):=⟨⟨encRt_free fr r⟩⟩
end
section
open Go.Proofs.Tryz (prog)
attribute [local irreducible] CallV RoundV aggK
theorem map_same {l:List (Prefix × Attrs)} {p:Prefix} {b:Attrs} (h:p ∉ keysE l):(l.map fun e=>if e.1=p then(p,b)else e)=l:=by
 conv=>rhs;rw[← List.map_id l]
 apply List.map_congr_left
 intro e he
 rw[if_neg fun e2=>h (List.mem_map.2 ⟨e,he,e2⟩)]
 rfl
theorem set_putE {p:Prefix} {a b:Attrs}:∀{l:List (Prefix × Attrs)} {i:Nat},NodE l→l[i]? = some (p,a)→l.set i (p,b)=l.map fun e=>if e.1=p then(p,b)else e
 | [],_,_,h=>by simp at h
 | e :: l,0,hn,h=>by
  simp only[List.getElem?_cons_zero,Option.some.injEq]at h
  subst h
  simp only[NodE,keysE,List.map_cons,List.nodup_cons]at hn
  rw[List.set_cons_zero,List.map_cons,if_pos rfl,map_same hn.1]
 | e :: l,i + 1,hn,h=>by
  simp only[NodE,keysE,List.map_cons,List.nodup_cons]at hn
  have h:l[i]? = some (p,a):=by simpa using h
  have hne:e.1 ≠ p:=fun e2=>hn.1 (e2▸List.mem_map.2 ⟨_,List.mem_of_getElem? h,rfl⟩)
  rw[List.set_cons_succ,List.map_cons,if_neg hne,set_putE hn.2 h]
theorem del_same {l:List (Prefix × Attrs)} {p:Prefix} (h:p ∉ keysE l):delE l p=l:=by
 rw[delE,List.filter_eq_self]
 intro e he
 rw[decide_eq_false fun e2=>h (List.mem_map.2 ⟨e,he,e2⟩)]
 rfl
theorem erase_delE {p:Prefix} {a:Attrs}:∀{l:List (Prefix × Attrs)} {i:Nat},NodE l→l[i]? = some (p,a)→l.eraseIdx i=delE l p
 | [],_,_,h=>by simp at h
 | e :: l,0,hn,h=>by
  simp only[List.getElem?_cons_zero,Option.some.injEq]at h
  subst h
  simp only[NodE,keysE,List.map_cons,List.nodup_cons]at hn
  have:=del_same (p:=p) hn.1
  rw[delE]at this
  simp[delE,this]
 | e :: l,i + 1,hn,h=>by
  simp only[NodE,keysE,List.map_cons,List.nodup_cons]at hn
  have h:l[i]? = some (p,a):=by simpa using h
  have hne:e.1 ≠ p:=fun e2=>hn.1 (e2▸List.mem_map.2 ⟨_,List.mem_of_getElem? h,rfl⟩)
  have ih:=erase_delE (p:=p) hn.2 h
  rw[delE]at ih
  rw[List.eraseIdx_cons_succ,ih,delE,List.filter_cons,decide_eq_false hne]
  rfl
theorem put_det {m:List (Prefix × Attrs)} (hn:NodE m) (p:Prefix) (b:Attrs):∃r,MPos (esA m) (encP p) r∧mput (esA m) (encP p) (encA false b) r=esA (putE m p b):=by
 by_cases h:p∈keysE m
 ·obtain⟨i,a,hi⟩:=find_key h
  refine⟨some i,⟨encA false a,by simp[esA,hi]⟩,?_⟩
  rw[putE,if_pos h,← set_putE hn hi]
  simp[mput,esA,List.map_set]
 ·exact⟨none,put_new h,by rw[putE,if_neg h];simp[mput,esA]⟩
theorem del_det {m:List (Prefix × Attrs)} (hn:NodE m) (p:Prefix):∃r,MPos (esA m) (encP p) r∧mdel (esA m) r=esA (delE m p):=by
 by_cases h:p∈keysE m
 ·obtain⟨i,a,hi⟩:=find_key h
  exact⟨some i,⟨encA false a,by simp[esA,hi]⟩,by rw[← erase_delE hn hi,mdel,esA_erase]⟩
 ·exact⟨none,put_new h,by rw[del_same h];rfl⟩
def cellsCh (fr:Bool) (c:Change):List V:=cellsP c.pfx ++ [.bool c.has]++ cellsA fr c.attrs
abbrev rowsCh (fr:Bool) (l:List Change):List (List V):=l.map (cellsCh fr)
def encChs (fr:Bool) (l:List Change):V:=.sl fr 11 (rowsCh fr l)
theorem cellsCh_free (fr:Bool) (c:Change):∀v∈cellsCh fr c,Free v:=by
 intro v hv
 rcases List.mem_append.1 hv with h|h
 ·rcases List.mem_append.1 h with h|h
  ·exact cellsP_free _ v h
  ·simp at h;subst h;exact .bool
 ·exact cellsA_free _ _ v h
theorem rowsCh_free (fr:Bool) (l:List Change):∀x∈rowsCh fr l,∀v∈x,Free v:=by
 intro x hx v hv
 obtain⟨c,_,rfl⟩:=List.mem_map.1 hx
 exact cellsCh_free fr c v hv
theorem encChs_free (fr:Bool) (l:List Change):Free (encChs fr l):=.sl (rowsCh_free fr l)
instance {fr l}:FreeI (encChs fr l):=⟨⟨encChs_free fr l⟩⟩
end
section
open Go.Proofs.Tryz (prog)
attribute [local irreducible] CallV RoundV aggK
theorem Ren.mapp {σ:Nat→Nat} {b b':Nat} (h:σ b=b'):Ren σ (.mapp b) (.mapp b'):=fun ι ι' z im u hι hv=>by
 subst h
 cases hv with
 | mapp _ c hc=>exact .mapp _ c ((hι b).trans hc)
theorem PCon.weak {P:Program} {f:FuncId} {args:List V} {v v':V} (h:PCon P f args v) (hl:Less v v'):PCon P f args v':=by
 unfold PCon CallV at *
 refine⟨h.1,fun G w us hr hv=>(h.2 G w us hr hv).mono ?_⟩
 rintro e w' ⟨u,v1,h',nx',G',h1,⟨rfl,e2,e3⟩,h3,h4,h5,h6⟩
 exact⟨u,v',h',nx',G',h1,⟨rfl,e2,e3⟩,hl _ _ _ _ (fun a u hi=>⟨hi.1,hi.2.1,(fun h=>by cases h),hi.2.2.2⟩) h3,h4,h5,h6⟩
theorem dels_succ (m:List (Prefix × Attrs)) {l:List Prefix} {i:Nat} (h:i < l.length):delsM m (l.take (i + 1))=delE (delsM m (l.take i)) l[i]:=by
 unfold delsM
 rw[List.take_succ_eq_append_getElem h,List.foldl_append]
 rfl
theorem puts_succ (m:List (Prefix × Attrs)) {l:List Prefix} {i:Nat} {a:Attrs} (h:i < l.length):putsM m (l.take (i + 1)) a=putE (putsM m (l.take i) a) l[i] a:=by
 unfold putsM
 rw[List.take_succ_eq_append_getElem h,List.foldl_append]
 rfl
end
section
open Go.Proofs.Tryz (prog)
attribute [local irreducible] CallV RoundV aggK VC VM CallB
def outsC (a b:List (Prefix × Attrs)) (l:List Prefix):List Change:=l.filterMap (chg noA (getE a) (getE b))
theorem esA_cold (m:List (Prefix × Attrs)):∀kv∈esA m,Cold kv.1∧Cold kv.2:=by
 intro kv h
 obtain⟨e,_,rfl⟩:=List.mem_map.1 h
 exact⟨encP_cold _,encA_cold _⟩
theorem outsC_len (a b:List (Prefix × Attrs)) (l:List Prefix):(outsC a b l).length≤l.length:=List.length_filterMap_le _ _
theorem cellsCh_fresh (c:Change):∀v∈cellsCh true c,Fresh v:=by
 intro v hv
 have h:=encA_fresh c.attrs
 simp only[cellsCh,cellsP,List.mem_append,List.mem_cons,List.not_mem_nil,or_false]at hv
 rcases hv with((rfl|rfl)|rfl)|hv
 ·exact .int
 ·exact .int
 ·exact .bool
 ·simp[cellsA]at hv
  rcases hv with rfl|rfl|rfl|rfl|rfl|rfl|rfl|rfl
  all_goals first|exact .int|exact .bool|exact encLegs_fresh _|exact encW_fresh _
theorem encChs_fresh (l:List Change):Fresh (encChs true l):=.sl fun x hx v hv=>by
 obtain⟨c,_,rfl⟩:=List.mem_map.1 hx
 exact cellsCh_fresh c v hv
theorem LeB.arrE' {h:Heap} {nx nx':Nat} {ρ:Nat→Nat} {Z:List Nat} {fr fr' ex ex':Bool} {ty sz:Nat} {xs ys:List (List V)} (e:xs=ys) (hf:∀x∈ys,∀v∈x,Free v) (h1:fr'=true→fr=true) (h2:ex'=true→ex=true):LeB h nx ρ nx' Z (.arr fr ex ty sz xs) (.arr fr' ex' ty sz ys):=by
 subst e;exact .arrE rfl hf h1 h2
theorem rows_step {o o':List Change} {c:Change} {n:Nat} {r:List (List V)} (h:o'=o ++ [c]) (hn:n=o.length) (hr:r=[cellsCh true c]):List.take n (rowsCh true o)++ r=rowsCh true o':=by
 subst h;subst hn;subst hr
 rw[List.take_of_length_le (by simp[rowsCh])]
 simp[rowsCh]
theorem strict_sort {l:List Prefix} (h:l.Nodup):(sortPs l).Pairwise fun x y=>pkey x < pkey y:=by
 have hn:(sortPs l).Nodup:=(List.mergeSort_perm l _).nodup_iff.2 h
 exact(List.pairwise_and_iff.2 ⟨sortPs_sorted l,hn⟩).imp fun⟨h1,h2⟩=>by
  rcases Nat.lt_or_ge (pkey _) (pkey _)with h|h
  ·exact h
  ·exact absurd (pkey_inj (by omega)) h2
theorem mem_dd {l:List Prefix} {p:Prefix} (h:p∈l) (hr:prefOk p=true):p∈dd l:=by
 have keep:∀(l acc:List Prefix),p∈acc→p∈l.foldl ddS acc:=by
  intro l
  induction l with
  | nil=>intro acc h;exact h
  | cons x l ih=>intro acc h;refine ih _ ?_;unfold ddS;split<;>(try split)<;>simp[h]
 have key:∀(l acc:List Prefix),p∈l→p∈l.foldl ddS acc:=by
  intro l
  induction l with
  | nil=>intro acc h;cases h
  | cons x l ih=>
   intro acc h
   rcases List.mem_cons.1 h with rfl|h
   ·refine keep l _ ?_
    unfold ddS
    rw[if_pos hr]
    split
    ·assumption
    ·simp
   ·exact ih _ h
 exact key l [] h
theorem cnt_pref {own:UInt32} {pe:Peer} {pol:Policy} {p:Prefix} {a b:Attrs} (h:cnt own pe pol p a=some b):prefOk p=true:=by
 cases hp:prefOk p with
 | true=>rfl
 | false=>
  have e:byR pol own p (outA pe a)=(noA,false):=by rw[byR,if_pos (by rw[byE,if_pos (.inr (.inl hp))];decide)]
  simp[cnt,isC,e]at h
theorem outs_eq {own:UInt32} {pe:Peer} {pol pol':Policy} {m n w1 w2 all:List (Prefix × Attrs)} (hm:NodE m) (hn:NodE n) (h1:w1.Perm (cntE (cnt own pe pol) m)) (h2:w2.Perm (cntE (cnt own pe pol') n)) (ha:copyPost w1 w2 all) :
  outsC w1 w2 (sortPs (keysE all))=(sortPs (dd (keysE m ++ keysE n))).filterMap (chg noA (fun p=>(getE m p).bind (cnt own pe pol p)) (fun p=>(getE n p).bind (cnt own pe pol' p))):=by
 have e1:getE w1=fun p=>(getE m p).bind (cnt own pe pol p):=funext fun p=>(getE_perm (nod_cnt hm) h1.symm p).symm.trans (getE_cnt hm p)
 have e2:getE w2=fun p=>(getE n p).bind (cnt own pe pol' p):=funext fun p=>(getE_perm (nod_cnt hn) h2.symm p).symm.trans (getE_cnt hn p)
 rw[outsC,e1,e2]
 refine chg_unique (strict_sort (ha.1 ((nod_cnt hm).perm h1.symm))) (strict_sort (dd_nodup _)) fun p hne=>?_
 rw[mem_sortPs,mem_sortPs]
 have side:∀{pol:Policy} {w x:List (Prefix × Attrs)},(getE w=fun p=>(getE x p).bind (cnt own pe pol p))→(getE x p).bind (cnt own pe pol p) ≠ none→p∈keysE w∧p∈keysE x∧prefOk p=true:=by
  intro pol w x hw h
  cases hx:getE x p with
  | none=>rw[hx]at h;exact absurd rfl h
  | some a=>
   rw[hx]at h
   cases hc:cnt own pe pol p a with
   | none=>exact absurd hc h
   | some b=>
    have:getE w p=some b:=by rw[hw];simp[hx,hc]
    exact⟨getE_key this,getE_key hx,cnt_pref hc⟩
 cases hf:(getE m p).bind (cnt own pe pol p)with
 | some a=>
  obtain⟨q1,q2,q3⟩:=side e1 (by rw[hf];simp)
  exact⟨(ha.2.1 p).2 (.inl q1),mem_dd (by simp[q2]) q3⟩
 | none=>
  have hg:(getE n p).bind (cnt own pe pol' p) ≠ none:=fun hg=>hne (by rw[hf,hg])
  obtain⟨q1,q2,q3⟩:=side e2 hg
  exact⟨(ha.2.1 p).2 (.inr q1),mem_dd (by simp[q2]) q3⟩
theorem callV_same {P:Program} {f:FuncId} {args:List V} {h h':Heap} {nx:Nat} {R:V→Heap→Nat→Prop} (hh:∀b,hget h' b=hget h b) (hc:CallV P f args h' nx R):CallV P f args h nx R:=
 by
 unfold CallV at *
 exact⟨hc.1,fun G w us hr hv=>hc.2 G w us (hr.congr hh (Nat.le_refl _)) hv⟩
def DoC (k:FuncId) (caps:List V) (b1 b2:Option Blk) (C C':List V):Prop:=
 CallV prog k caps ((0,some (.var true 121 C)) :: (3,some (.var true 81 [.snil])) :: [(1,b1),(2,b2)]) 4 (fun v h nx=>v=.tup []∧h=[(0,some (.var true 121 C')),(3,some (.var true 81 [.snil]))]∧nx=4)
def chgs (own:UInt32) (pe:Peer) (pol pol':Policy) (m n:List (Prefix × Attrs)):List Change:=
 (sortPs (dd (keysE m ++ keysE n))).filterMap (chg noA (fun p=>(getE m p).bind (cnt own pe pol p)) (fun p=>(getE n p).bind (cnt own pe pol' p)))
theorem changed_B {own:UInt32} {pe:Peer} {pol pol':Policy} {m n:List (Prefix × Attrs)} (hm:okM own pe pol m) (hn:okM own pe pol' n) {k:FuncId} {caps:List V} {b1 b2:Option Blk} (hdo:DoC k caps b1 b2 (cellsIn own pe pol m) (cellsIn own pe pol' n)) :
  CallB prog 58 [.ptr 0 0,.fn (.func k) [] caps] ((0,some (.var true 121 (cellsIn own pe pol m))) :: [(1,b1),(2,b2)]) 3
   (fun v h nx=>v=encChs true (chgs own pe pol pol' m n)∧h=[(0,some (.var true 121 (cellsIn own pe pol' n)))]∧nx=4):=by
 have hF:FW Fence.wide:=.inl rfl
 refine callB_of_vm (fn:=Go.Proofs.Tryz.f58) (body:=_) tab_ok rfl rfl (by simp[Go.Proofs.Tryz.f58]) (Nat.le_of_ble_eq_true rfl) ?_
 refine vm_seq (vcg_ok (rd:=false) tab_ok mixed hF (fun _=>rfl) ?_)
 conv=>whnf
 refine vm_seq (vcg_ok (rd:=false) tab_ok mixed hF (fun _=>rfl) ?_)
 conv=>whnf
 refine callV_in (counted_ok hm) rfl (cellsIn_free _ _ _ _) (cellsIn_free _ _ _ _) ⟨.ptr rfl (by omega),trivial⟩ ?_
 rintro v ⟨w1,rfl,hw1⟩
 refine⟨imapA_free _,?_⟩
 show _
 conv=>whnf
 refine vm_seq (vcg_ok (rd:=false) tab_ok mixed hF (fun _=>rfl) ?_)
 conv=>whnf
 refine callV_same (h':=(0,some (.var true 121 (cellsIn own pe pol m))) :: (3,some (.var true 81 [.snil])) :: [(1,b1),(2,b2)]) (fun b=>by
  simp only[hget_cons]
  repeat' split
  all_goals first|rfl|(exfalso;omega)) (CallV.mono hdo ?_)
 rintro v h' nx' ⟨rfl,rfl,rfl⟩
 conv=>whnf
 refine vm_seq (vcg_ok (rd:=false) tab_ok mixed hF (fun _=>rfl) ?_)
 conv=>whnf
 refine callV_in (counted_ok hn) rfl (cellsIn_free _ _ _ _) (cellsIn_free _ _ _ _) ⟨.ptr rfl (by omega),trivial⟩ ?_
 rintro v ⟨w2,rfl,hw2⟩
 refine⟨imapA_free _,?_⟩
 show _
 conv=>whnf
 refine vm_mark' (fun b=>b == 3) 4 [(4,.ptr 3 0),(5,.imap false (esA w1)),(6,.imap false (esA w2))] [(3,some (.var false 81 [.snil]))] [(0,some (.var true 121 (cellsIn own pe pol' n)))] rfl ⟨⟨rfl,.inr ⟨3,0,rfl,rfl⟩⟩,⟨rfl,.inl ⟨imapA_free _,Cold.imap (esA_cold _)⟩⟩,⟨rfl,.inl ⟨imapA_free _,Cold.imap (esA_cold _)⟩⟩,trivial⟩ ⟨⟨rfl,rfl,⟨true,rfl⟩,by simp;exact⟨.snil,.snil⟩⟩,trivial⟩ ⟨⟨rfl,rfl⟩,trivial⟩ ?_
 refine vcg_ok (rd:=false) tab_ok mixed hF (fun _=>rfl) ?_
 conv=>whnf
 refine callV_frame (nx:=4) (n0:=0) id (cloneA_own false (esA w1)) ⟨.fr rfl,trivial⟩ (LeH.nil (by omega) (fun _ h=>by omega) (by simp)) (fun b hb=>by omega) (fun b hb=>by omega) ?_
 rintro v h' nx' ⟨rfl,rfl,rfl⟩ _
 refine⟨.mapp 4,[(4,some (.map (esA w1))),(3,some (.var false 81 [.snil]))],Ren.mapp rfl,(by repeat' (first|exact True.intro|exact Or.inr ⟨by decide,rfl⟩|exact Or.inl ⟨0,rfl,by omega,_,rfl,rfl,esA_free _⟩|refine⟨?_,?_⟩)),?_⟩
 conv=>whnf
 refine callV_frame (nx:=5) (n0:=1) (renOf [(0,4)]) (mcopy_ok w1 w2) (by repeat' (first|exact True.intro|exact .mapp rfl (by omega)|exact LeB.map rfl (esA_free _)|exact .A|exact LeL.fr rfl|refine⟨?_,?_⟩)) (LeH.of (by repeat' (first|exact LHa|exact .mapp rfl (by omega)|exact LeB.map rfl (esA_free _)|exact .A|exact LeL.fr rfl|exact LHb|refine Or.inl ⟨by simp,_,rfl,?_⟩|exact Or.inr ⟨by simp,_,_,_,_,rfl⟩|refine⟨rfl,rfl,rfl,rfl,rfl,rfl,?_⟩|refine⟨?_,?_⟩)) (show ∀b∈([0]:List Nat),∀b'∈([0]:List Nat),(renOf [(0,4)]) b=(renOf [(0,4)]) b'→b=b' by decide) (fun _ h=>by omega) (by omega) (by simp)) (fun b hb=>by match b,hb with|0,_=>exact ne_none_of rfl) (by decide) ?_
 rintro v h' nx' ⟨rfl,⟨all,hall,rfl⟩,rfl⟩ _
 refine⟨.tup [],[(4,some (.map (esA all))),(3,some (.var false 81 [.snil]))],.free (.tup (by simp)),(by repeat' (first|exact True.intro|exact Or.inr ⟨by decide,rfl⟩|exact Or.inl ⟨0,rfl,by omega,_,rfl,rfl,esA_free _⟩|refine⟨?_,?_⟩)),?_⟩
 have hl1:w1.length≤400:=Nat.le_trans (Nat.le_of_eq hw1.length_eq) (Nat.le_trans (List.length_filterMap_le _ _) hm.2.1)
 have hl2:w2.length≤400:=Nat.le_trans (Nat.le_of_eq hw2.length_eq) (Nat.le_trans (List.length_filterMap_le _ _) hn.2.1)
 have hlen:all.length≤1000:=by have:=hall.2.2;omega
 conv=>whnf
 refine callV_lend [4] (sortedA_ok all hlen) ⟨LeV.freezeM (by simp) rfl rfl (esA_free _),trivial⟩ (by intro v hv;obtain rfl:=List.mem_singleton.1 hv;exact Cold.imap (esA_cold _)) (one_none rfl) (encPs_fresh _) ?_
 conv=>whnf
 have small:∀{pol:Policy} {w x:List (Prefix × Attrs)},okM own pe pol x→w.Perm (cntE (cnt own pe pol) x)→∀p b,getE w p=some b→smallA b:=fun hx hw p b hb=>by
  have h1:=hw.mem_iff.1 (getE_mem hb)
  simp only[cntE,List.mem_filterMap,Option.map_eq_some_iff]at h1
  obtain⟨e,he,b',hb',e2⟩:=h1
  cases e2
  exact(hx.2.2 e he).2 _ hb'
 have sm1:=small hm hw1
 have sm2:=small hn hw2
 have hl:(sortPs (keysE all)).length≤1000:=by rw[sortPs_len,keysE,List.length_map];exact hlen
 have hout:=outs_eq hm.1 hn.1 hw1 hw2 hall
 generalize sortPs (keysE all)=l at *
 intro hgl
 have hgl:l.length≤maxLen:=by simpa[gd]using hgl
 conv=>whnf
 refine vcg_loop tab_ok mixed (fun i:{i:Nat // i≤l.length}=>⟨[(4,.ptr 3 0),(5,.imap false (esA w1)),(6,.imap false (esA w2)),(7,.fn (.func 103) [] [.ptr 3 0]),(28,encPs true l),(29,cI l.length),(30,cI i.1)],[(3,some (.var false 81 [.osl 5 11 0 (outsC w1 w2 (l.take i.1)).length])),(5,some (.arr true false 168 11 (rowsCh true (outsC w1 w2 (l.take i.1)))))],6⟩) (fun i=>l.length - i.1) ⟨0,by omega⟩ (Wk.i (by repeat' (first|exact LHa|exact .fnL trivial ⟨.ptr rfl (by omega),trivial⟩|exact .int_of (by simp)|exact .osl0|exact .A|exact LeL.fr rfl|exact LHb|refine Or.inl ⟨by simp,_,rfl,?_⟩|exact Or.inr ⟨by simp,_,_,_,_,rfl⟩|refine⟨rfl,rfl,rfl,rfl,rfl,rfl,?_⟩|refine⟨?_,?_⟩)) (by omega)) (fun i=>?_)
 obtain⟨i,hi⟩:=i
 conv=>whnf
 split
 ·rename_i hc
  have hc:i < l.length:=by simpa using hc
  have hol:(outsC w1 w2 (l.take i)).length≤1000:=Nat.le_trans (outsC_len _ _ _) (by rw[List.length_take];omega)
  conv=>whnf
  refine ixK (idxP hc) ?_
  have hsu:outsC w1 w2 (l.take (i + 1))=outsC w1 w2 (l.take i)++ (match chg noA (getE w1) (getE w2) l[i]with|none=>[]|some c=>[c]):=by
   rw[outsC,List.take_succ_eq_append_getElem hc,List.filterMap_append]
   congr 1
   cases h:chg noA (getE w1) (getE w2) l[i]<;>simp[h]
  cases g1:getE w1 l[i]with
  | none=>
   cases g2:getE w2 l[i]with
   | none=>
    have hx:outsC w1 w2 (l.take (i + 1))=outsC w1 w2 (l.take i):=by rw[hsu,chg,if_pos (by rw[g1,g2])];simp
    have sm:=same_ok true true noA noA
    rw[sameA_refl]at sm
    conv=>whnf
    refine⟨esA_keys _,keyP _,none,look_none g1,?_⟩
    conv=>whnf
    refine⟨esA_keys _,keyP _,none,look_none g2,?_⟩
    conv=>whnf
    refine callV_pure sm ⟨.noA,.noA,trivial⟩ ?_
    conv=>whnf
    exact⟨⟨i + 1,by omega⟩,(Wk.i (by repeat' (first|exact LHa|exact .fnL trivial ⟨.ptr rfl (by omega),trivial⟩|exact .int_of (wrap64_succ hc hgl)|exact .osl_of rfl (by omega) (by rw[hx])|exact LeB.arrE (by rw[hx]) (rowsCh_free _ _) id id|exact .A|exact LeL.fr rfl|exact LHb|refine Or.inl ⟨by simp,_,rfl,?_⟩|exact Or.inr ⟨by simp,_,_,_,_,rfl⟩|refine⟨rfl,rfl,rfl,rfl,rfl,rfl,?_⟩|refine⟨?_,?_⟩)) (by omega)),by simp only;omega⟩
   | some b=>
    have hx:outsC w1 w2 (l.take (i + 1))=outsC w1 w2 (l.take i)++ [⟨l[i],true,b⟩]:=by rw[hsu,chg,if_neg (by rw[g1,g2];simp),g2];rfl
    conv=>whnf
    refine⟨esA_keys _,keyP _,none,look_none g1,?_⟩
    conv=>whnf
    refine⟨esA_keys _,keyP _,some (encA false b),look_some g2,?_⟩
    conv=>whnf
    refine⟨_,[],fun h nx _=>pureV_pure (copy_pure false b (sm2 _ _ g2).1 (sm2 _ _ g2).2.1 (sm2 _ _ g2).2.2) ⟨.fr rfl,trivial⟩,by simp,?_⟩
    conv=>whnf
    refine⟨by kernel_rfl,?_⟩
    conv=>whnf
    refine callV_of (fn:=Go.Proofs.Tryz.f103) (body:=_) tab_ok mixed rfl rfl (by decide) (by simp[Go.Proofs.Tryz.f103]) ?_
    conv=>whnf
    refine⟨rfl,by simp,⟨rfl,rfl,rfl,rfl,by decide⟩,by simp[rowsCh],⟨by simp[tab,tabOf,nth];omega,by simp;omega⟩,?_⟩
    conv=>whnf
    refine⟨_,_,_,Ends.here,?_⟩
    conv=>whnf
    exact⟨⟨i + 1,by omega⟩,(Wk.all (renOf [(5,10)]) [] (by repeat' (first|exact LHa|exact .fnL trivial ⟨.ptr rfl (by omega),trivial⟩|exact .int_of (wrap64_succ hc hgl)|exact .osl_of rfl (by omega) (by rw[hx];simp)|exact LeB.arrE' (rows_step hx rfl rfl) (rowsCh_free _ _) id id|exact .A|exact LeL.fr rfl|exact LHb|refine Or.inl ⟨by simp,_,rfl,?_⟩|exact Or.inr ⟨by simp,_,_,_,_,rfl⟩|refine⟨rfl,rfl,rfl,rfl,rfl,rfl,?_⟩|refine⟨?_,?_⟩)) (show ∀b∈([3,5]:List Nat),∀b'∈([3,5]:List Nat),(renOf [(5,10)]) b=(renOf [(5,10)]) b'→b=b' by decide) (fun _ h=>by omega) (by omega) (by simp)),by simp only;omega⟩
  | some a=>
   cases g2:getE w2 l[i]with
   | none=>
    have hx:outsC w1 w2 (l.take (i + 1))=outsC w1 w2 (l.take i)++ [⟨l[i],false,noA⟩]:=by rw[hsu,chg,if_neg (by rw[g1,g2];simp),g2];rfl
    conv=>whnf
    refine⟨esA_keys _,keyP _,some (encA false a),look_some g1,?_⟩
    conv=>whnf
    refine⟨esA_keys _,keyP _,none,look_none g2,?_⟩
    conv=>whnf
    refine⟨_,[],fun h nx _=>pureV_pure (copy_pure false noA (by simp[noA]) (by simp[noA]) (by simp[noA])) ⟨.noA,trivial⟩,by simp,?_⟩
    conv=>whnf
    refine⟨by kernel_rfl,?_⟩
    conv=>whnf
    refine callV_of (fn:=Go.Proofs.Tryz.f103) (body:=_) tab_ok mixed rfl rfl (by decide) (by simp[Go.Proofs.Tryz.f103]) ?_
    conv=>whnf
    refine⟨rfl,by simp,⟨rfl,rfl,rfl,rfl,by decide⟩,by simp[rowsCh],⟨by simp[tab,tabOf,nth];omega,by simp;omega⟩,?_⟩
    conv=>whnf
    refine⟨_,_,_,Ends.here,?_⟩
    conv=>whnf
    exact⟨⟨i + 1,by omega⟩,(Wk.all (renOf [(5,10)]) [] (by repeat' (first|exact LHa|exact .fnL trivial ⟨.ptr rfl (by omega),trivial⟩|exact .int_of (wrap64_succ hc hgl)|exact .osl_of rfl (by omega) (by rw[hx];simp)|exact LeB.arrE' (rows_step hx rfl rfl) (rowsCh_free _ _) id id|exact .A|exact LeL.fr rfl|exact LHb|refine Or.inl ⟨by simp,_,rfl,?_⟩|exact Or.inr ⟨by simp,_,_,_,_,rfl⟩|refine⟨rfl,rfl,rfl,rfl,rfl,rfl,?_⟩|refine⟨?_,?_⟩)) (show ∀b∈([3,5]:List Nat),∀b'∈([3,5]:List Nat),(renOf [(5,10)]) b=(renOf [(5,10)]) b'→b=b' by decide) (fun _ h=>by omega) (by omega) (by simp)),by simp only;omega⟩
   | some b=>
    have sm:=same_ok false false a b
    cases hab:sameA a b with
    | true=>
     have hx:outsC w1 w2 (l.take (i + 1))=outsC w1 w2 (l.take i):=by rw[hsu,chg,if_pos (by rw[g1,g2,of_decide_eq_true hab])];simp
     rw[hab]at sm
     conv=>whnf
     refine⟨esA_keys _,keyP _,some (encA false a),look_some g1,?_⟩
     conv=>whnf
     refine⟨esA_keys _,keyP _,some (encA false b),look_some g2,?_⟩
     conv=>whnf
     refine callV_pure sm ⟨.fr rfl,.fr rfl,trivial⟩ ?_
     conv=>whnf
     exact⟨⟨i + 1,by omega⟩,(Wk.i (by repeat' (first|exact LHa|exact .fnL trivial ⟨.ptr rfl (by omega),trivial⟩|exact .int_of (wrap64_succ hc hgl)|exact .osl_of rfl (by omega) (by rw[hx])|exact LeB.arrE (by rw[hx]) (rowsCh_free _ _) id id|exact .A|exact LeL.fr rfl|exact LHb|refine Or.inl ⟨by simp,_,rfl,?_⟩|exact Or.inr ⟨by simp,_,_,_,_,rfl⟩|refine⟨rfl,rfl,rfl,rfl,rfl,rfl,?_⟩|refine⟨?_,?_⟩)) (by omega)),by simp only;omega⟩
    | false=>
     have hx:outsC w1 w2 (l.take (i + 1))=outsC w1 w2 (l.take i)++ [⟨l[i],true,b⟩]:=by rw[hsu,chg,if_neg (by rw[g1,g2];intro e;exact of_decide_eq_false hab (Option.some.inj e)),g2];rfl
     rw[hab]at sm
     conv=>whnf
     refine⟨esA_keys _,keyP _,some (encA false a),look_some g1,?_⟩
     conv=>whnf
     refine⟨esA_keys _,keyP _,some (encA false b),look_some g2,?_⟩
     conv=>whnf
     refine callV_pure sm ⟨.fr rfl,.fr rfl,trivial⟩ ?_
     conv=>whnf
     refine⟨_,[],fun h nx _=>pureV_pure (copy_pure false b (sm2 _ _ g2).1 (sm2 _ _ g2).2.1 (sm2 _ _ g2).2.2) ⟨.fr rfl,trivial⟩,by simp,?_⟩
     conv=>whnf
     refine⟨by kernel_rfl,?_⟩
     conv=>whnf
     refine callV_of (fn:=Go.Proofs.Tryz.f103) (body:=_) tab_ok mixed rfl rfl (by decide) (by simp[Go.Proofs.Tryz.f103]) ?_
     conv=>whnf
     refine⟨rfl,by simp,⟨rfl,rfl,rfl,rfl,by decide⟩,by simp[rowsCh],⟨by simp[tab,tabOf,nth];omega,by simp;omega⟩,?_⟩
     conv=>whnf
     refine⟨_,_,_,Ends.here,?_⟩
     conv=>whnf
     exact⟨⟨i + 1,by omega⟩,(Wk.all (renOf [(5,10)]) [] (by repeat' (first|exact LHa|exact .fnL trivial ⟨.ptr rfl (by omega),trivial⟩|exact .int_of (wrap64_succ hc hgl)|exact .osl_of rfl (by omega) (by rw[hx];simp)|exact LeB.arrE' (rows_step hx rfl rfl) (rowsCh_free _ _) id id|exact .A|exact LeL.fr rfl|exact LHb|refine Or.inl ⟨by simp,_,rfl,?_⟩|exact Or.inr ⟨by simp,_,_,_,_,rfl⟩|refine⟨rfl,rfl,rfl,rfl,rfl,rfl,?_⟩|refine⟨?_,?_⟩)) (show ∀b∈([3,5]:List Nat),∀b'∈([3,5]:List Nat),(renOf [(5,10)]) b=(renOf [(5,10)]) b'→b=b' by decide) (fun _ h=>by omega) (by omega) (by simp)),by simp only;omega⟩
 rename_i hc
 have hc:i=l.length:=by simp at hc;omega
 subst hc
 rw[List.take_length]
 conv=>whnf
 refine⟨encChs true (outsC w1 w2 l),[],0,Ends.of id [5] (.freeze_of (by simp) rfl (by simp[rowsCh]) (rowsCh_free _ _) (by rw[List.drop_zero,List.take_of_length_le (by simp[rowsCh])])) (LeH.nil (Nat.le_refl _) (fun b hb=>by omega) (by intro z hz;simp at hz;subst hz;simp[hget])),encChs_free _ _,encChs_fresh _,?_,rfl,rfl⟩
 exact congrArg _ hout
end
section
open Go.Proofs.Tryz (prog)
attribute [local irreducible] CallV RoundV aggK VC VM CallB
theorem doTake {own:UInt32} {pe:Peer} {pol:Policy} {m n:List (Prefix × Attrs)}:DoC 59 [.ptr 2 0,.ptr 1 0] (some (.var true 78 [.ptr 0 0])) (some (.var true 119 [.imap false (esA n)])) (cellsIn own pe pol m) (cellsIn own pe pol n):=by
 unfold DoC
 refine callV_of (fn:=Go.Proofs.Tryz.f59) (body:=_) tab_ok mixed rfl rfl (by decide) (by simp[Go.Proofs.Tryz.f59]) ?_
 conv=>whnf
 exact⟨.tup [],[(0,some (.var true 121 (cellsIn own pe pol n))),(3,some (.var true 81 [.snil]))],4,(Ends.all id [] (by repeat' (first|exact LHa|exact LeL.freeV (cellsIn_free own pe pol n)|exact .A|exact LeL.fr rfl|exact LHb|refine Or.inl ⟨by simp,_,rfl,?_⟩|exact Or.inr ⟨by simp,_,_,_,_,rfl⟩|refine⟨rfl,rfl,rfl,rfl,rfl,rfl,?_⟩|refine⟨?_,?_⟩)) (fun _ _ _ _ h=>h) (fun _ _=>rfl) (by omega) (by simp)),rfl,rfl,rfl⟩
theorem take_B {own:UInt32} {pe:Peer} {pol:Policy} {m:List (Prefix × Attrs)} (hm:okM own pe pol m) (u:Upd) (hs:Small u) (hc:checkU u=0) (ha:smallA u.attrs) (hl:(takeM m u.gone u.new u.attrs).length≤64) (hn:okM own pe pol (takeM m u.gone u.new u.attrs)) :
  CallB prog 28 [.ptr 0 0,encU false u] [(0,some (.var true 121 (cellsIn own pe pol m)))] 1
   (fun v h nx=>v=.tup [encChs true (chgs own pe pol pol m (takeM m u.gone u.new u.attrs)),.int .i64 0]∧h=[(0,some (.var true 121 (cellsIn own pe pol (takeM m u.gone u.new u.attrs))))]∧nx=6):=by
 have cu:=ucheck_ok false u hs
 rw[hc]at cu
 have hF:FW Fence.wide:=.inl rfl
 refine callB_of_vm (fn:=Go.Proofs.Tryz.f28) (body:=_) tab_ok rfl rfl (by simp[Go.Proofs.Tryz.f28]) (Nat.le_of_ble_eq_true rfl) ?_
 refine vm_seq (vcg_ok (rd:=false) tab_ok mixed hF (fun _=>rfl) ?_)
 conv=>whnf
 refine vm_seq (vcg_ok (rd:=false) tab_ok mixed hF (fun _=>rfl) ?_)
 conv=>whnf
 refine callV_in (none_ok own pe pol m) rfl (cellsIn_free _ _ _ _) (cellsIn_free _ _ _ _) ⟨.ptr rfl (by omega),trivial⟩ ?_
 rintro v rfl
 refine⟨.bool,?_⟩
 show _
 conv=>whnf
 refine callV_pure cu ⟨.fr rfl,trivial⟩ ?_
 conv=>whnf
 refine vm_seq (vcg_ok (rd:=false) tab_ok mixed hF (fun _=>rfl) ?_)
 conv=>whnf
 refine callV_frame (nx:=3) (n0:=0) id (cloneA_own false (esA m)) ⟨.fr rfl,trivial⟩ (LeH.nil (by omega) (fun _ h=>by omega) (by simp)) (fun b hb=>by omega) (fun b hb=>by omega) ?_
 rintro v h' nx' ⟨rfl,rfl,rfl⟩ _
 refine⟨.mapp 3,[(3,some (.map (esA m))),(0,some (.var true 121 (cellsIn own pe pol m))),(1,some (.var true 78 [.ptr 0 0])),(2,some (.var true 86 (cellsU false u)))],Ren.mapp rfl,(by repeat' (first|exact True.intro|exact Or.inr ⟨by decide,rfl⟩|exact Or.inl ⟨0,rfl,by omega,_,rfl,rfl,esA_free m⟩|refine⟨?_,?_⟩)),?_⟩
 conv=>whnf
 refine vm_seq (vcg_ok (rd:=false) tab_ok mixed hF (fun _=>rfl) ?_)
 conv=>whnf
 intro hgl
 have hgl:u.gone.length≤maxLen:=by simpa[gd]using hgl
 conv=>whnf
 refine vcg_loop tab_ok mixed (fun i:{i:Nat // i≤u.gone.length}=>⟨[(2,.ptr 1 0),(3,.ptr 2 0),(6,.ptr 4 0),(24,encPs false u.gone),(25,cI u.gone.length),(26,cI i.1)],[(0,some (.var true 121 (cellsIn own pe pol m))),(1,some (.var true 78 [.ptr 0 0])),(2,some (.var true 86 (cellsU false u))),(3,some (.map (esA (delsM m (u.gone.take i.1))))),(4,some (.var true 119 [.mapp 3]))],5⟩) (fun i=>u.gone.length - i.1) ⟨0,by omega⟩ (Wk.i (by repeat' (first|exact LHa|exact LeL.freeV (cellsIn_free own pe pol m)|exact LeL.freeV (cellsU_free false u)|exact .mapp rfl (by omega)|exact LeB.map rfl (esA_free _)|exact .int_of (by simp)|exact .A|exact LeL.fr rfl|exact LHb|refine Or.inl ⟨by simp,_,rfl,?_⟩|exact Or.inr ⟨by simp,_,_,_,_,rfl⟩|refine⟨rfl,rfl,rfl,rfl,rfl,rfl,?_⟩|refine⟨?_,?_⟩)) (by omega)) (fun i=>?_)
 obtain⟨i,hi⟩:=i
 conv=>whnf
 split
 ·rename_i hc
  have hc:i < u.gone.length:=by simpa using hc
  obtain⟨r,h1,h2⟩:=del_det (nod_dels (gone:=u.gone.take i) hm.1) u.gone[i]
  have hfr:∀kv∈mdel (esA (delsM m (u.gone.take i))) r,Free kv.1∧Free kv.2:=by rw[h2];exact esA_free _
  rw[← dels_succ m hc]at h2
  conv=>whnf
  refine ixK (idxP hc) ?_
  conv=>whnf
  refine⟨esA_keys _,keyP _,r,h1,?_⟩
  conv=>whnf
  exact⟨⟨i + 1,by omega⟩,(Wk.i (by repeat' (first|exact LHa|exact LeL.freeV (cellsIn_free own pe pol m)|exact LeL.freeV (cellsU_free false u)|exact .mapp rfl (by omega)|exact LeB.map h2 hfr|exact .int_of (wrap64_succ hc hgl)|exact .A|exact LeL.fr rfl|exact LHb|refine Or.inl ⟨by simp,_,rfl,?_⟩|exact Or.inr ⟨by simp,_,_,_,_,rfl⟩|refine⟨rfl,rfl,rfl,rfl,rfl,rfl,?_⟩|refine⟨?_,?_⟩)) (by omega)),by simp only;omega⟩
 rename_i hc
 have hc:i=u.gone.length:=by simp at hc;omega
 subst hc
 rw[List.take_length]
 conv=>whnf
 refine vm_seq (vcg_ok (rd:=false) tab_ok mixed hF (fun _=>rfl) ?_)
 conv=>whnf
 intro hnl
 have hnl:u.new.length≤maxLen:=by simpa[gd]using hnl
 conv=>whnf
 have hcp:=(copy_pure false u.attrs ha.1 ha.2.1 ha.2.2).weak (less_encA true)
 have hnd:=nod_dels (gone:=u.gone) hm.1
 refine vcg_loop tab_ok mixed (fun i:{i:Nat // i≤u.new.length}=>⟨[(2,.ptr 1 0),(3,.ptr 2 0),(6,.ptr 4 0),(34,encPs false u.new),(35,cI u.new.length),(36,cI i.1)],[(0,some (.var true 121 (cellsIn own pe pol m))),(1,some (.var true 78 [.ptr 0 0])),(2,some (.var true 86 (cellsU false u))),(3,some (.map (esA (putsM (delsM m u.gone) (u.new.take i.1) u.attrs)))),(4,some (.var true 119 [.mapp 3]))],5⟩) (fun i=>u.new.length - i.1) ⟨0,by omega⟩ (Wk.i (by repeat' (first|exact LHa|exact LeL.freeV (cellsIn_free own pe pol m)|exact LeL.freeV (cellsU_free false u)|exact .mapp rfl (by omega)|exact LeB.map rfl (esA_free _)|exact .int_of (by simp)|exact .A|exact LeL.fr rfl|exact LHb|refine Or.inl ⟨by simp,_,rfl,?_⟩|exact Or.inr ⟨by simp,_,_,_,_,rfl⟩|refine⟨rfl,rfl,rfl,rfl,rfl,rfl,?_⟩|refine⟨?_,?_⟩)) (by omega)) (fun i=>?_)
 obtain⟨i,hi⟩:=i
 conv=>whnf
 split
 ·rename_i hc
  have hc:i < u.new.length:=by simpa using hc
  obtain⟨r,h1,h2⟩:=put_det (nod_puts (new:=u.new.take i) (a:=u.attrs) hnd) u.new[i] u.attrs
  have hfr:∀kv∈mput (esA (putsM (delsM m u.gone) (u.new.take i) u.attrs)) (encP u.new[i]) (encA false u.attrs) r,Free kv.1∧Free kv.2:=by rw[h2];exact esA_free _
  rw[← puts_succ _ hc]at h2
  conv=>whnf
  refine ixK (idxP hc) ?_
  conv=>whnf
  refine⟨_,[],fun h nx _=>pureV_pure hcp ⟨.fr rfl,trivial⟩,by simp,?_⟩
  conv=>whnf
  refine⟨esA_keys _,keyP _,r,h1,?_⟩
  conv=>whnf
  refine⟨by kernel_rfl,?_⟩
  conv=>whnf
  exact⟨⟨i + 1,by omega⟩,(Wk.i (by repeat' (first|exact LHa|exact LeL.freeV (cellsIn_free own pe pol m)|exact LeL.freeV (cellsU_free false u)|exact .mapp rfl (by omega)|exact LeB.map h2 hfr|exact .int_of (wrap64_succ hc hnl)|exact .A|exact LeL.fr rfl|exact LHb|refine Or.inl ⟨by simp,_,rfl,?_⟩|exact Or.inr ⟨by simp,_,_,_,_,rfl⟩|refine⟨rfl,rfl,rfl,rfl,rfl,rfl,?_⟩|refine⟨?_,?_⟩)) (by omega)),by simp only;omega⟩
 rename_i hc
 have hc:i=u.new.length:=by simp at hc;omega
 subst hc
 rw[List.take_length]
 have hlen:(esA (putsM (delsM m u.gone) u.new u.attrs)).length=(takeM m u.gone u.new u.attrs).length:=by simp[esA,takeM]
 conv=>whnf
 refine vm_seq (vcg_ok (rd:=false) tab_ok mixed hF (fun _=>rfl) ?_)
 conv=>whnf
 split
 case' h_1 hh=>exfalso;have:=of_decide_eq_true hh;rw[hlen]at this;omega
 conv=>whnf
 have hfin:esA (putsM (delsM m u.gone) u.new u.attrs)=esA (takeM m u.gone u.new u.attrs):=rfl
 generalize takeM m u.gone u.new u.attrs=n at *
 refine vm_weak (s':=⟨[(2,.ptr 1 0),(6,.ptr 4 0)],[(0,some (.var true 121 (cellsIn own pe pol m))),(1,some (.var true 78 [.ptr 0 0])),(4,some (.var true 119 [.imap false (esA n)]))],5⟩) (Wk.all id [3] (by repeat' (first|exact LHa|exact LeL.freeV (cellsIn_free own pe pol m)|exact LeV.freezeM (by simp) rfl hfin (esA_free _)|exact .A|exact LeL.fr rfl|exact LHb|refine Or.inl ⟨by simp,_,rfl,?_⟩|exact Or.inr ⟨by simp,_,_,_,_,rfl⟩|refine⟨rfl,rfl,rfl,rfl,rfl,rfl,?_⟩|refine⟨?_,?_⟩)) (fun _ _ _ _ h=>h) (fun _ _=>rfl) (by omega) (by intro z hz;simp only[List.mem_cons,List.not_mem_nil,or_false]at hz;rcases hz with rfl<;>exact ne_none_of rfl)) ?_
 refine vm_then (vm_call tab_ok hF (m:=2) (fid:=58) (d:=51) (by decide) rfl rfl rfl rfl rfl (by decide) ?_)
 conv=>whnf
 refine⟨_,rfl,?_⟩
 refine callB_frame (nx:=5) (n0:=3) (renOf [(2,4)]) (changed_B hm hn doTake) (by repeat' (first|exact True.intro|exact LeL.freeV (cellsIn_free own pe pol m)|exact .fnL trivial ⟨.ptr rfl (by omega),.ptr rfl (by omega),trivial⟩|exact LeV.freeV (imapA_free n)|exact .free (imapA_free n)|exact .A|exact LeL.fr rfl|refine⟨?_,?_⟩)) (LeH.of (by repeat' (first|exact LHa|exact LeL.freeV (cellsIn_free own pe pol m)|exact .fnL trivial ⟨.ptr rfl (by omega),.ptr rfl (by omega),trivial⟩|exact LeV.freeV (imapA_free n)|exact .free (imapA_free n)|exact .A|exact LeL.fr rfl|exact LHb|refine Or.inl ⟨by simp,_,rfl,?_⟩|exact Or.inr ⟨by simp,_,_,_,_,rfl⟩|refine⟨rfl,rfl,rfl,rfl,rfl,rfl,?_⟩|refine⟨?_,?_⟩)) (show ∀b∈([0,1,2]:List Nat),∀b'∈([0,1,2]:List Nat),(renOf [(2,4)]) b=(renOf [(2,4)]) b'→b=b' by decide) (fun _ h=>by omega) (by omega) (by simp)) (fun b hb=>by match b,hb with|0,_=>exact ne_none_of rfl|1,_=>exact ne_none_of rfl|2,_=>exact ne_none_of rfl) (by decide) ?_
 rintro v h' nx' ⟨rfl,rfl,rfl⟩ _
 refine⟨[(0,some (.var true 121 (cellsIn own pe pol n)))],(by repeat' (first|exact True.intro|exact Or.inr ⟨by decide,rfl⟩|exact Or.inl ⟨0,rfl,by omega,_,rfl,.var (cellsIn_free own pe pol n)⟩|refine⟨?_,?_⟩)),?_⟩
 intro u'
 refine⟨[],trivial,?_⟩
 conv=>whnf
 refine⟨rfl,?_⟩
 refine vcg_ok (rd:=false) tab_ok mixed hF (fun _=>rfl) ?_
 conv=>whnf
 exact⟨_,_,_,Ends.here,.tup (by intro v hv;simp at hv;rcases hv with rfl|rfl;exact encChs_free _ _;exact .int),.tup (by intro v hv;simp at hv;rcases hv with rfl|rfl;exact encChs_fresh _;exact .int),rfl,rfl,rfl⟩
end
section
open Go.Proofs.Tryz (prog)
theorem tupCh_free (l:List Change) (k:Int):Free (.tup [encChs true l,.int .i64 k]):=.tup (by intro v hv;simp at hv;rcases hv with rfl|rfl;exact encChs_free _ _;exact .int)
theorem take_ok {own:UInt32} {pe:Peer} {pol:Policy} {m:List (Prefix × Attrs)} (hm:okM own pe pol m) (u:Upd) (hs:Small u) (hc:checkU u=0) (ha:smallA u.attrs) (hl:(takeM m u.gone u.new u.attrs).length≤64) (hn:okM own pe pol (takeM m u.gone u.new u.attrs)) :
  InC 28 [.ptr 0 0,encU false u] (cellsIn own pe pol m) (cellsIn own pe pol (takeM m u.gone u.new u.attrs)) (·=.tup [encChs true (chgs own pe pol pol m (takeM m u.gone u.new u.attrs)),.int .i64 0]):=
 CallV.ends (take_B hm u hs hc ha hl hn).callV fun v h' nx' ⟨e1,e2,e3⟩=>by
  subst e1 e2 e3
  exact⟨.tup [encChs true (chgs own pe pol pol m (takeM m u.gone u.new u.attrs)),.int .i64 0],[(0,some (.var true 121 (cellsIn own pe pol (takeM m u.gone u.new u.attrs))))],1,(Ends.all id [] (by repeat' (first|exact LHa|exact .free (tupCh_free _ _)|exact LeL.freeV (cellsIn_free own pe pol _)|exact .A|exact LeL.fr rfl|exact LHb|refine Or.inl ⟨by simp,_,rfl,?_⟩|exact Or.inr ⟨by simp,_,_,_,_,rfl⟩|refine⟨rfl,rfl,rfl,rfl,rfl,rfl,?_⟩|refine⟨?_,?_⟩)) (fun _ _ _ _ h=>h) (fun _ _=>rfl) (by omega) (by simp)),rfl,rfl,rfl⟩
attribute [local irreducible] CallV RoundV aggK VC VM CallB
end
section
open Go.Proofs.Tryz (prog)
attribute [local irreducible] CallV RoundV aggK
def litsPe (p:Peer):List Lit:=[litW p.sys,litW p.id,litW p.addr,.bool p.inner]
theorem litsPe_inj {p q:Peer}:litsPe p=litsPe q↔p=q:=by
 constructor
 ·intro h
  obtain⟨a,b,c,d⟩:=p
  obtain⟨a',b',c',d'⟩:=q
  simp only[litsPe,List.cons.injEq,Lit.bool.injEq,and_true]at h
  obtain⟨h1,h2,h3,h4⟩:=h
  rw[litW_inj h1,litW_inj h2,litW_inj h3,h4]
 ·exact fun h=>by rw[h]
theorem litPe (p:Peer) {K:List Lit→Prop} (h:K (litsPe p)):litK tab 60 26 (cellsPe p) K:=And.intro (wfW _) (And.intro (wfW _) (And.intro (wfW _) h))
theorem eqlPe (r s:Peer) {K:V→Prop} (h:K (.bool (decide (r=s)))):aggK tab .eql 26 (cellsPe r) (cellsPe s) K:=by
 refine aggK_eql rfl rfl ?_
 refine litPe r ?_
 refine litPe s ?_
 exact⟨decide (r=s),by rw[litsPe_inj];simp,h⟩
end
section
open Go.Proofs.Tryz (prog)
attribute [local irreducible] CallV RoundV aggK
def ctR (own:UInt32) (pe:Peer) (pol:Policy) (p:Prefix) (a:Attrs):Attrs × Bool:=
 if hasA a.path own then(noA,false)else if !pe.inner && !decide (firstOf a=pe.sys)then(noA,false)else byR pol own p (outA pe a)
theorem ctR_cnt (own:UInt32) (pe:Peer) (pol:Policy) (p:Prefix) (a:Attrs):cnt own pe pol p a=if(ctR own pe pol p a).2 then some (ctR own pe pol p a).1 else none:=by
 unfold cnt ctR isC
 cases hasA a.path own<;>cases pe.inner<;>cases decide (firstOf a=pe.sys)<;>simp
def countR (r:RibS) (p:Prefix):Option Attrs:=(getE r.said p).bind (cnt r.own r.peer r.pol p)
def smallS (r:RibS):Prop:=r.said.length≤1000∧∀e∈r.said,smallA e.2
end
section
open Go.Proofs.Tryz (prog)
attribute [local irreducible] CallV RoundV aggK
theorem keysE_len (l:List (Prefix × Attrs)):(keysE l).length=l.length:=List.length_map _
end
section
open Go.Proofs.Tryz (prog)
attribute [local irreducible] CallV RoundV aggK
def newR (r:RibS) (u:Upd):RibS:={ r with said:=takeS r.said u.gone u.new u.attrs }
end
section
open Go.Proofs.Tryz (prog)
attribute [local irreducible] CallV RoundV aggK
structure RelR (own:UInt32) (pe:Peer) (pol:Policy) (m:List (Prefix × Attrs)) (r:RibS):Prop where
 eown:r.own=own
 epeer:r.peer=pe
 epol:r.pol=pol
 perm:r.said.Perm m
 ris:RisE r.said
 ok:okM own pe pol m
theorem RelR.get {own:UInt32} {pe:Peer} {pol:Policy} {m:List (Prefix × Attrs)} {r:RibS} (h:RelR own pe pol m r) {i:Nat} (hi:i < r.said.length):getE m r.said[i].1=some r.said[i].2:=by
 have hn:NodE m:=h.ok.1
 exact mem_getE hn (h.perm.mem_iff.1 (List.getElem_mem hi))
theorem RelR.len {own:UInt32} {pe:Peer} {pol:Policy} {m:List (Prefix × Attrs)} {r:RibS} (h:RelR own pe pol m r):r.said.length=m.length:=h.perm.length_eq
theorem RelR.count {own:UInt32} {pe:Peer} {pol:Policy} {m:List (Prefix × Attrs)} {r:RibS} (h:RelR own pe pol m r) (p:Prefix):countR r p=(getE m p).bind (cnt own pe pol p):=by
 rw[countR,h.eown,h.epeer,h.epol,getE_perm h.ris.nod h.perm]
theorem RelR.small {own:UInt32} {pe:Peer} {pol:Policy} {m:List (Prefix × Attrs)} {r:RibS} (h:RelR own pe pol m r):smallS r:=⟨by rw[h.len];have:=h.ok.2.1;omega,fun e he=>(h.ok.2.2 e (h.perm.mem_iff.1 he)).1⟩
end
section
open Go.Proofs.Tryz (prog)
theorem right_small {a:Attrs} (h:rightA a=true):smallA a:=by
 simp only[rightA,Bool.and_eq_true,decide_eq_true_eq]at h
 obtain⟨⟨⟨⟨⟨⟨_,h1⟩,_⟩,_⟩,_⟩,h2⟩,_⟩:=h
 simp only[pathOk,Bool.and_eq_true,decide_eq_true_eq,List.all_eq_true]at h1
 refine⟨by omega,fun p hp=>?_,by omega⟩
 have:=h1.2 p hp
 simp only[legOk,Bool.and_eq_true,decide_eq_true_eq]at this
 have:=this.1.1.2
 omega
theorem noA_small:smallA noA:=⟨by simp[noA],by simp[noA],by simp[noA]⟩
theorem byE_zero24 {p:Policy} {own:UInt32} {to:Prefix} {a:Attrs} (h:byE p own to a=0):rightA a=true:=by
 unfold byE at h
 split at h
 ·cases h
 ·rename_i hh
  simp only[not_or]at hh
  simpa using hh.2.2.1
theorem by_right24 {p:Policy} {own:UInt32} {to:Prefix} {a:Attrs} (h:byE p own to a=0) (hok:byOk p own to a=true):rightA (byA p own to a)=true:=by
 have h3:=byE_zero24 h
 unfold byA
 unfold byOk at hok
 cases hf:p.rules.find? (fun r=>fits r to a)with
 | none=>
  rw[hf]at hok
  simp only at hok ⊢
  rw[if_pos hok]
  exact h3
 | some r=>
  rw[hf]at hok
  simp only at hok ⊢
  rw[if_pos hok]
  simp only[passR,Bool.and_eq_true,decide_eq_true_eq]at hok
  have hd:=hok.2
  unfold doneE at hd
  exact(prep_fine hd).2.2.2.1
theorem cnt_small {own:UInt32} {pe:Peer} {pol:Policy} {p:Prefix} {a b:Attrs} (h:cnt own pe pol p a=some b):smallA b:=by
 rw[ctR_cnt]at h
 split at h
 ·rename_i hc
  cases h
  unfold ctR at hc ⊢
  split at hc
  ·cases hc
  ·split at hc
   ·cases hc
   ·rename_i h1 h2
    rw[if_neg h1,if_neg h2]
    unfold byR at hc ⊢
    split at hc
    ·cases hc
    ·rename_i h3
     rw[if_neg h3]
     exact right_small (by_right24 (by simpa using h3) hc)
 ·cases h
theorem okM_of {own:UInt32} {pe:Peer} {pol:Policy} {m:List (Prefix × Attrs)} (hn:NodE m) (hl:m.length≤400) (hs:∀e∈m,smallA e.2):okM own pe pol m:=⟨hn,hl,fun e he=>⟨hs e he,fun b hb=>cnt_small hb⟩⟩
theorem okM_nil (own:UInt32) (pe:Peer) (pol:Policy):okM own pe pol []:=okM_of (by simp[NodE,keysE]) (by simp) (by simp)
theorem take_small {P:Attrs→Prop} {l:List (Prefix × Attrs)} {g new:List Prefix} {a:Attrs} (h:∀e∈l,P e.2) (ha:P a):∀e∈takeM l g new a,P e.2:=by
 have hd:∀(g:List Prefix) (l:List (Prefix × Attrs)),(∀e∈l,P e.2)→∀e∈delsM l g,P e.2:=by
  intro g
  induction g with
  | nil=>intro l h;exact h
  | cons x g ih=>intro l h;exact ih _ fun e he=>h e (List.mem_filter.1 he).1
 have hp:∀(g:List Prefix) (l:List (Prefix × Attrs)),(∀e∈l,P e.2)→∀e∈putsM l g a,P e.2:=by
  intro g
  induction g with
  | nil=>intro l h;exact h
  | cons x g ih=>
   intro l h
   refine ih _ fun e he=>?_
   have he:e∈putE l x a:=he
   by_cases hk:x∈keysE l
   ·rw[putE,if_pos hk]at he
    obtain⟨e',he',rfl⟩:=List.mem_map.1 he
    show P (if e'.1=x then(x,a)else e').2
    by_cases hx:e'.1=x
    ·rw[if_pos hx];exact ha
    ·rw[if_neg hx];exact h e' he'
   ·rw[putE,if_neg hk]at he
    rcases List.mem_append.1 he with he|he
    ·exact h e he
    ·obtain rfl:=List.mem_singleton.1 he
     exact ha
 exact hp new _ (hd g l h)
theorem RelR.take {own:UInt32} {pe:Peer} {pol:Policy} {m:List (Prefix × Attrs)} {r:RibS} (h:RelR own pe pol m r) {u:Upd} (hu:checkU u=0) (ha:smallA u.attrs) (hl:¬ 64 < (newR r u).said.length):RelR own pe pol (takeM m u.gone u.new u.attrs) (newR r u):=by
 have hm:mayU u=true:=by
  unfold checkU at hu
  split at hu
  ·assumption
  ·cases hu
 obtain⟨_,h2,_,_⟩:=mayU_out hm
 have hnd:u.new.Nodup:=nodup_of_strict (strict_of_rise (riseP_iff.1 h2))
 have hp:(takeM m u.gone u.new u.attrs).Perm (newR r u).said:=take_perm h.ris h.perm.symm hnd
 obtain⟨hris,_⟩:=takeS_ok (gone:=u.gone) (a:=u.attrs) h.ris hnd
 exact⟨h.eown,h.epeer,h.epol,hp.symm,hris,okM_of (nod_take h.ok.1) (by rw[hp.length_eq];omega) (take_small (fun e he=>(h.ok.2.2 e he).1) ha)⟩
theorem RelR.clear {own:UInt32} {pe:Peer} {pol:Policy} {m:List (Prefix × Attrs)} {r:RibS} (h:RelR own pe pol m r):RelR own pe pol [] { r with said:=[] }:=
 ⟨h.eown,h.epeer,h.epol,.refl _,by simp[RisE,keysE],okM_nil _ _ _⟩
theorem RelR.new {own:UInt32} {pe:Peer} {pol:Policy} (h:newOk own pe pol=true):RelR own pe pol [] (newS own pe pol):=by
 rw[newS,if_pos h]
 exact⟨rfl,rfl,rfl,.refl _,by simp[RisE,keysE],okM_nil _ _ _⟩
end
section
def Kin (u0 u1:Value):Prop:=(∃x y:UInt32,u0=.int .u32 x.toNat∧u1=.int .u32 y.toNat)∨∃b c,u0=.bool b∧u1=.bool c
theorem Kin.one {u0 u1:Value} (h:Kin u0 u1):u1.oneCell'=true:=by
 rcases h with⟨x,y,_,rfl⟩|⟨b,c,_,rfl⟩<;>rfl
section
variable {G : Gh} {w w' : World} {ad : Addr} {u0 u1 : Value}
def Alike (p q:List Leg):Prop:=p.map (·.ns.length)=q.map (·.ns.length)
theorem Alike.length {p q:List Leg} (h:Alike p q):p.length=q.length:=by simpa[Alike]using congrArg List.length h
theorem Alike.at {p q:List Leg} (h:Alike p q) {i:Nat} (h1:i < p.length) (h2:i < q.length):p[i].ns.length=q[i].ns.length:=by
 have:(p.map (·.ns.length))[i]? = (q.map (·.ns.length))[i]?:=by rw[h]
 simpa[h1,h2]using this
end
end
section
open Go.Proofs.Tryz (prog)
attribute [local irreducible] CallV RoundV VC VH
structure Shp (a x:Attrs):Prop where
 legs:Alike x.path a.path
 tags:x.tags.length=a.tags.length
theorem Shp.refl (a:Attrs):Shp a a:=⟨rfl,rfl⟩
def Bare (s:St):List (Nat × V)→Prop
 | []=>True
 | (i,v) :: r=>(Scalar v∧s.get i=v)∧Bare s r
theorem Bare.out {s:St}:∀{t:List (Nat × V)},Bare s t→∀i,look t i=.any∨(Scalar (look t i)∧s.get i=look t i)
 | [],_,i=>.inl rfl
 | (j,v) :: r,h,i=>by
  have e:look ((j,v) :: r) i=if j=i then v else look r i:=by
   have:=get_put r [] [] 0 0 j v i
   simpa[St.get]using this
  rw[e]
  by_cases hij:j=i
  ·subst hij;rw[if_pos rfl];exact .inr h.1
  ·rw[if_neg hij];exact Bare.out h.2 i
theorem Kin.u32 {G:Gh} {w:World} {n:Nat} {m:Int} {u0 u1:Value} (hn:n < 2 ^ 32) (hm:0≤m∧m < 2 ^ 32) (h0:vr G w (.int .u32 n) u0) (h1:vr G w (.int .u32 m) u1):Kin u0 u1:=by
 left
 refine⟨UInt32.ofNat n,UInt32.ofNat m.toNat,?_,?_⟩
 ·rw[VR.int_iff.1 h0,UInt32.toNat_ofNat_of_lt' (by simpa[UInt32.size]using hn)]
 ·rw[VR.int_iff.1 h1,UInt32.toNat_ofNat_of_lt' (by simp[UInt32.size];omega)]
  congr 1;omega
theorem Kin.bool {G:Gh} {w:World} {b c:Bool} {u0 u1:Value} (h0:vr G w (.bool b) u0) (h1:vr G w (.bool c) u1):Kin u0 u1:=.inr ⟨b,c,VR.bool_iff.1 h0,VR.bool_iff.1 h1⟩
theorem Shp.trans {a b c:Attrs} (h:Shp a b) (k:Shp b c):Shp a c:=⟨k.legs.trans h.legs,k.tags.trans h.tags⟩
end
section
section
variable {G : Gh} {w w' : World} {ad : Addr} {u0 u1 : Value}
structure ShC (y x:Change):Prop where
 legs:Alike y.attrs.path x.attrs.path
 tags:y.attrs.tags.length=x.attrs.tags.length
end
end
section
open Go.Proofs.Tryz (prog)
attribute [local irreducible] CallV RoundV VC VH
def ShL (l x:List Change):Prop:=x.length=l.length∧∀i (h1:i < x.length) (h2:i < l.length),ShC x[i] l[i]
theorem ShL.refl (l:List Change):ShL l l:=⟨rfl,fun i h1 h2=>⟨rfl,rfl⟩⟩
theorem ShL.trans {a b c:List Change} (h:ShL a b) (k:ShL b c):ShL a c:=⟨k.1.trans h.1,fun i h1 h2=>by
 have h3:i < b.length:=by rw[h.1];exact h2
 exact⟨(k.2 i h1 h3).legs.trans (h.2 i h3 h2).legs,(k.2 i h1 h3).tags.trans (h.2 i h3 h2).tags⟩⟩
end
section
open Go.Proofs.Tryz (prog)
attribute [local irreducible] CallV RoundV aggK
def ten24:Prefix:=⟨167772160,8⟩
def pe2:Peer:=⟨2,2,2,false⟩
def polE:Policy:=⟨[],true⟩
theorem rise1_24 {p:Prefix} (h:prefOk p=true):riseP [p]=true:=riseP_iff.2 fun j hj=>by
 obtain rfl:j=0:=by simp at hj;omega
 exact⟨h,fun h0=>absurd h0 (by omega)⟩
theorem rise0_24:riseP []=true:=riseP_iff.2 fun j hj=>by simp at hj
theorem sortPs_self {l:List Prefix} (h:l.Pairwise (fun x y=>pkey x≤pkey y)):sortPs l=l:=sorted_eq (List.mergeSort_perm _ _) (sortPs_sorted l) h
end
section
open Go.Proofs.Tryz (prog)
attribute [local irreducible] CallV RoundV aggK
instance {a:Attrs}:Decidable (smallA a):=inferInstanceAs (Decidable (_∧_∧_))
instance {m:List (Prefix × Attrs)}:Decidable (NodE m):=inferInstanceAs (Decidable (List.Nodup _))
end
section
open Go.Proofs.Tryz (prog)
attribute [local irreducible] CallV RoundV aggK VC VM CallB VH
instance {fr l}:FreeI (encChs fr l):=⟨⟨encChs_free fr l⟩⟩
end
section
open Go.ChangeShapes Go.WideShapes
open Go.Proofs.Tryz (prog)
theorem rep_peer:RepOk prog 26 cellsPe:=fun enc w sp fuel cs x h=>by
 have ht:=Go.Proofs.Tryz.underlying26
 obtain⟨xs,n,_,_,hlen,_,_⟩:=DataW.trod_struct ht h
 have hl:cs.length=4:=hlen.trans (by kernel_rfl)
 obtain⟨a,h0,o0⟩:=field_at ht h 0 rfl (rep_u32 Go.Proofs.Tryz.underlying22) rfl (by kernel_rfl)
 obtain⟨b,h1,o1⟩:=field_at ht h 1 rfl (rep_u32 Go.Proofs.Tryz.underlying22) rfl (by kernel_rfl)
 obtain⟨c,h2,o2⟩:=field_at ht h 2 rfl (rep_u32 Go.Proofs.Tryz.underlying22) rfl (by kernel_rfl)
 obtain⟨d,h3,o3⟩:=field_at ht h 3 rfl (rep_bool Go.Proofs.Tryz.underlying4) rfl (by kernel_rfl)
 have j1:=vrs_join (vrs_join (vrs_join (vrs_join vrs_take0 h0 rfl (by omega)) h1 rfl (by omega)) h2 rfl (by omega)) h3 rfl (by omega)
 have k1:=one_join (one_join (one_join (one_join (by simp) o0 rfl (by omega)) o1 rfl (by omega)) o2 rfl (by omega)) o3 rfl (by omega)
 rw[List.take_of_length_le (by omega)]at j1 k1
 exact⟨⟨a,b,c,d⟩,j1,k1⟩
end
section
open Go.Proofs.Tryz (prog)
attribute [local irreducible] CallV RoundV aggK
def laidC (l:List Change) (c:Change):List Change:=l.filter (fun x=>!decide (x.pfx=c.pfx))++ (if c.has then [c]else [])
def laidsC (l d:List Change):List Change:=d.foldl laidC l
abbrev pairC (l:List Change):List (Prefix × Attrs):=l.map fun c=>(c.pfx,c.attrs)
theorem pair_laid (l:List Change) (c:Change):pairC (laidC l c)=delE (pairC l) c.pfx ++ (if c.has then [(c.pfx,c.attrs)]else []):=by
 unfold pairC laidC delE
 rw[List.map_append,List.filter_map]
 congr 1
 split<;>rfl
theorem getE_app {α:Type} (l l':List (Prefix × α)) (q:Prefix):getE (l ++ l') q=(getE l q).or (getE l' q):=by
 unfold getE
 rw[List.find?_append]
 cases l.find? (fun e=>decide (e.1=q))<;>simp
theorem get_laid (l:List Change) (c:Change) (q:Prefix):getE (pairC (laidC l c)) q=if q=c.pfx then(if c.has then some c.attrs else none)else getE (pairC l) q:=by
 rw[pair_laid,getE_app,getE_del]
 by_cases hq:q=c.pfx
 ·rw[if_pos hq,if_pos hq]
  subst hq
  cases c.has<;>simp[getE]
 ·rw[if_neg hq,if_neg hq]
  have h2:getE (if c.has then [(c.pfx,c.attrs)]else []) q=none:=by
   cases c.has with
   | false=>rfl
   | true=>simp[getE,Ne.symm hq]
  rw[h2]
  cases getE (pairC l) q<;>rfl
theorem nod_laid {l:List Change} (h:NodE (pairC l)) (c:Change):NodE (pairC (laidC l c)):=by
 rw[pair_laid]
 unfold NodE keysE
 rw[List.map_append]
 refine List.nodup_append.2 ⟨nod_del h,by split<;>simp,fun a ha b hb e=>?_⟩
 subst e
 have h1:=(keys_del (l:=pairC l)).1 ha
 split at hb
 ·simp at hb;exact h1.1 hb
 ·simp at hb
theorem nod_laids:∀{d l:List Change},NodE (pairC l)→NodE (pairC (laidsC l d))
 | [],_,h=>h
 | c :: d,_,h=>nod_laids (d:=d) (nod_laid h c)
theorem get_laids {z:Attrs} {f g:Prefix→Option Attrs}:∀(ks:List Prefix) (l:List Change) (q:Prefix),getE (pairC (laidsC l (ks.filterMap (chg z f g)))) q=if q∈ks∧f q ≠ g q then g q else getE (pairC l) q
 | [],l,q=>by simp[laidsC]
 | p :: ks,l,q=>by
  by_cases hp:f p=g p
  ·rw[List.filterMap_cons,show chg z f g p=none from if_pos hp]
   have:=get_laids (z:=z) (f:=f) (g:=g) ks l q
   rw[this]
   by_cases hq:q∈ks∧f q ≠ g q
   ·rw[if_pos hq,if_pos ⟨List.mem_cons_of_mem _ hq.1,hq.2⟩]
   ·rw[if_neg hq,if_neg]
    rintro ⟨h1,h2⟩
    rcases List.mem_cons.1 h1 with rfl|h1
    ·exact h2 hp
    ·exact hq ⟨h1,h2⟩
  ·rw[List.filterMap_cons,show chg z f g p=some ⟨p,(g p).isSome,(g p).getD z⟩from if_neg hp]
   have:=get_laids (z:=z) (f:=f) (g:=g) ks (laidC l ⟨p,(g p).isSome,(g p).getD z⟩) q
   show getE (pairC (laidsC (laidC l ⟨p,(g p).isSome,(g p).getD z⟩) (ks.filterMap (chg z f g)))) q=_
   rw[this,get_laid]
   by_cases hq:q=p
   ·subst hq
    have e1:q∈q :: ks∧f q ≠ g q:=⟨List.mem_cons_self,hp⟩
    rw[if_pos e1,if_pos rfl]
    split
    ·rfl
    ·cases g q<;>rfl
   ·rw[if_neg hq]
    by_cases h:q∈ks∧f q ≠ g q
    ·rw[if_pos h,if_pos ⟨List.mem_cons_of_mem _ h.1,h.2⟩]
    ·rw[if_neg h,if_neg]
     rintro ⟨h1,h2⟩
     rcases List.mem_cons.1 h1 with rfl|h1
     ·exact hq rfl
     ·exact h ⟨h1,h2⟩
def cntAt (own:UInt32) (pe:Peer) (pol:Policy) (m:List (Prefix × Attrs)) (q:Prefix):Option Attrs:=(getE m q).bind (cnt own pe pol q)
theorem cntAt_key {own:UInt32} {pe:Peer} {pol:Policy} {m:List (Prefix × Attrs)} {q:Prefix} (h:cntAt own pe pol m q ≠ none):q∈keysE m∧prefOk q=true:=by
 unfold cntAt at h
 cases hx:getE m q with
 | none=>rw[hx]at h;exact absurd rfl h
 | some a=>
  rw[hx]at h
  cases hcc:cnt own pe pol q a with
  | none=>exact absurd hcc h
  | some b=>exact⟨getE_key hx,cnt_pref hcc⟩
theorem laid_chgs {own:UInt32} {pe:Peer} {pol:Policy} {m n:List (Prefix × Attrs)} {l:List Change} (h:∀q,getE (pairC l) q=cntAt own pe pol m q) (q:Prefix):getE (pairC (laidsC l (chgs own pe pol pol m n))) q=cntAt own pe pol n q:=by
 unfold chgs
 rw[get_laids]
 by_cases he:cntAt own pe pol m q=cntAt own pe pol n q
 ·rw[if_neg (fun hh=>hh.2 he),h,he]
 ·rw[if_pos]
  ·rfl
  refine⟨mem_sortPs.2 ?_,he⟩
  by_cases hm:cntAt own pe pol m q=none
  ·obtain⟨h1,h2⟩:=cntAt_key (m:=n) (q:=q) (fun e=>he (hm.trans e.symm))
   exact mem_dd (by simp[h1]) h2
  ·obtain⟨h1,h2⟩:=cntAt_key hm
   exact mem_dd (by simp[h1]) h2
theorem cnt_seen {own:UInt32} {pe:Peer} {pol:Policy} {m:List (Prefix × Attrs)} {l:List Change} (hn:NodE m) (hl:NodE (pairC l)) (h:∀q,getE (pairC l) q=cntAt own pe pol m q):((sortPs (keysE m)).filter fun q=>(cntAt own pe pol m q).isSome).length=l.length:=by
 have h1:(sortPs (keysE m)).Nodup:=(List.mergeSort_perm _ _).nodup_iff.2 hn
 have hp:((sortPs (keysE m)).filter fun q=>(cntAt own pe pol m q).isSome).Perm (keysE (pairC l)):=by
  refine(List.perm_ext_iff_of_nodup (h1.filter _) hl).2 fun q=>?_
  rw[List.mem_filter,mem_sortPs]
  constructor
  ·rintro ⟨_,h3⟩
   rw[← h]at h3
   obtain⟨a,ha⟩:=Option.isSome_iff_exists.1 h3
   exact getE_key ha
  ·intro hk
   obtain⟨a,ha⟩:=key_getE hk
   rw[h]at ha
   exact⟨(cntAt_key (by rw[ha];simp)).1,by rw[ha];rfl⟩
 rw[hp.length_eq]
 simp[keysE]
end
section
open Go.Proofs.Tryz (prog)
attribute [local irreducible] CallV RoundV aggK
theorem bodyB_parts (u:Upd):(bodyB u).length=4 + (prefsB u.gone).length + (aA u.attrs).length + (prefsB u.new).length:=by
 simp only[bodyB,partsU,gB,aB,List.flatten_cons,List.flatten_nil,List.length_append,List.append_nil,twoB,List.length_cons,List.length_nil]
 omega
theorem checkU_zero {u:Upd} (h:checkU u=0):mayU u=true∧(bodyB u).length≤493:=by
 unfold checkU at h
 split at h
 ·rename_i hm
  split at h
  ·cases h
  ·exact⟨hm,by omega⟩
 ·cases h
structure AddsI (pe:Peer) (pol:Policy) (m:List (Prefix × Attrs)) (l:List Change):Prop where
 ok:okM 1 pe pol m
 few:m.length≤64
 cnt:∀q,getE (pairC l) q=cntAt 1 pe pol m q
 nod:NodE (pairC l)
theorem AddsI.len {pe:Peer} {pol:Policy} {m:List (Prefix × Attrs)} {l:List Change} (h:AddsI pe pol m l):l.length≤64:=by
 have:=cnt_seen h.ok.1 h.nod h.cnt
 have h2:=List.length_filter_le (fun q=>(cntAt 1 pe pol m q).isSome) (sortPs (keysE m))
 have h3:(sortPs (keysE m)).length=m.length:=by rw[sortPs_len,keysE_len]
 have:=h.few
 omega
theorem AddsI.nil {pe:Peer} {pol:Policy}:AddsI pe pol [] []:=⟨okM_nil _ _ _,by simp,fun q=>rfl,by simp[NodE,keysE]⟩
theorem AddsI.take {pe:Peer} {pol:Policy} {m:List (Prefix × Attrs)} {l:List Change} (h:AddsI pe pol m l) {g n:List Prefix} {a:Attrs} (ha:smallA a) (h64:¬ 64 < (takeM m g n a).length):AddsI pe pol (takeM m g n a) (laidsC l (chgs 1 pe pol pol m (takeM m g n a))):=
 ⟨okM_of (nod_take h.ok.1) (by omega) (take_small (fun e he=>(h.ok.2.2 e he).1) ha),by omega,laid_chgs h.cnt,nod_laids h.nod⟩
end
section
section
variable {P : Program} {T : Tab} {F : Fence} {N : Nat}
def Dfr2 (w0:World) (G1 G2:Gh) (w:World) (D D':List Deferred):Prop:=
 ∃ms:List Nat,D'=(ms.map fun r=>{ target:=.collected r,args:=#[] })++ D∧(∀r∈ms,w0.heap.size≤r∧w.heap[r]? = some (.deferred (some []))∧((∀b,G1.ι b ≠ some r)∧¬ G1.amb r)∧(∀b,G2.ι b ≠ some r)∧¬ G2.amb r)∧ms.Pairwise (· ≠ ·)
def PostLo (N base:Nat) (G:Gh) (w:World) (D:List Deferred) (K:Ex→Heap→Nat→St→Prop) (e:Exit) (a':Act) (w':World):Prop:=
 ∃e' h1 nx1 G1 s2 G2,e=Ex.to e'∧K e' h1 nx1 s2∧Low base G w G1 h1 nx1 G2.B w'∧Sim G2 N s2 a' w'∧Dfr2 w G1 G2 w' D a'.defers∧(∀b c,G2.ι b=some c→G2.B≤c)∧∀c,G2.amb c→G2.B≤c∨G1.amb c
def VLo (P:Program) (F:Fence) (N base:Nat) (c:Code) (s:St) (K:Ex→Heap→Nat→St→Prop):Prop:=
 ∀(n:Nat) (G:Gh) (a:Act) (w:World),Sim G N s a w→base≤s.nx→c.wpIn F n P (PostLo N base G w a.defers K) a w
theorem PostLo.evo {base:Nat} {G Ga:Gh} {w wa:World} {D D1:List Deferred} {K:Ex→Heap→Nat→St→Prop} {e:Exit} {a':Act} {w':World} (h:PostLo N base Ga wa D1 K e a' w') (he:Evo base G w Ga wa) (hd:Dfr w Ga wa D D1):PostLo N base G w D K e a' w':=by
 obtain⟨e',h1,nx1,G1,s2,G2,q1,q2,q3,q4,q5,q6,q7⟩:=h
 refine⟨e',h1,nx1,G1,s2,G2,q1,q2,⟨q3.hr,he.trans q3.evo,q3.nx,q3.amb,q3.lt,Nat.le_trans he.size q3.B⟩,q4,?_,q6,q7⟩
 obtain⟨ms,d1,d2,d3⟩:=hd
 obtain⟨ms2,k1,k2,k3⟩:=q5
 have hlt:∀r∈ms,r < wa.heap.size:=fun r hr=>lt_of_heap (d2 r hr).2.1
 refine⟨ms2 ++ ms,by rw[k1,d1];simp,fun r hr=>?_,List.pairwise_append.2 ⟨k3,d3,fun a ha b hb e=>?_⟩⟩
 ·rcases List.mem_append.1 hr with hr|hr
  ·have:=k2 r hr
   exact⟨Nat.le_trans he.size this.1,this.2⟩
  ·obtain⟨z1,z2,z3,z4⟩:=d2 r hr
   have hl:=hlt r hr
   have g1:(∀b,G1.ι b ≠ some r)∧¬ G1.amb r:=by
    refine⟨fun b hb=>?_,fun ha=>?_⟩
    ·obtain⟨b',hb'⟩:=q3.evo.idn b r hb hl
     exact z3 b' hb'
    ·rcases q3.evo.ambn r ha hl with h|⟨b,h⟩
     ·exact z4 h
     ·exact z3 b h
   refine⟨z1,(q3.evo.keepu r hl z3).trans z2,g1,fun b hb=>?_,fun ha=>?_⟩
   ·have:=q6 b r hb;have:=q3.B;omega
   ·rcases q7 r ha with h|h
    ·have:=q3.B;omega
    ·exact g1.2 h
 ·have:=(k2 a ha).1
  have:=hlt b hb
  omega
theorem vlo_seq {base:Nat} {x y:Code} {s:St} {K:Ex→Heap→Nat→St→Prop} (h:VC P F N base x s (thenK (fun s'=>VLo P F N base y s' K) (fun _ _=>False))):VLo P F N base (.seq x y) s K:=by
 intro n G a w hs hb
 refine wpIn_seq (wpIn_mono (h n G a w hs hb) ?_)
 rintro e a' w' ⟨e',s',G',rfl,hq,hs',he,hb',hd⟩
 cases e' with
 | normal=>exact wpIn_mono (hq n G' a' w' hs' hb') fun e a2 w2 hp=>hp.evo he hd
 | exit id=>exact hq.elim
 | goto l=>exact hq.elim
 | ret=>exact hq.elim
theorem CallB.tidy {f:FuncId} {args:List V} {h:Heap} {nx:Nat} {R R':V→Heap→Nat→Prop} (hc:CallB P f args h nx R) (hr:∀v h' nx',R v h' nx'→∃h2,(∀b,hget h2 b=hget h' b)∧R' v h2 nx'):CallB P f args h nx R':=
 ⟨hc.1,fun G w us hh hv=>(hc.2 G w us hh hv).mono fun e w' ⟨u,v,h',nx',G',B',h1,h2,h3,h4⟩=>by
  obtain⟨h2',q1,q2⟩:=hr _ _ _ h2
  exact⟨u,v,h2',nx',G',B',h1,q2,h3.congr q1 (Nat.le_refl _),h4⟩⟩
theorem vlo_weak {base:Nat} {c:Code} {s s':St} {K:Ex→Heap→Nat→St→Prop} (hw:Wk base N s s') (h:VLo P F N base c s' K):VLo P F N base c s K:=fun n G a w hs hb=>by
 obtain⟨G',h1,h2,h3⟩:=hw G a w hs hb
 exact wpIn_mono (h n G' a w h1 h3) fun e a' w' hp=>hp.evo h2 (Dfr.of_eq rfl)
structure PutOps (T:Tab) (N:Nat) (ops:Array Oper) (x y d0 d1 d2 d3 off:Nat):Prop where
 ex:∃o0 o1 o2 o3 o4 st f ft tv fs,ops=#[o0,o1,o2,o3,o4]∧(o0.op=.move (.tmp x)∧o1.op=.move (.tmp y)∧o2.op=.nilCheck (.tmp d0)∧o3.op=.fieldAddr st (.tmp d2) f∧o4.op=.store tv (.tmp d3) (.tmp d1)) ∧
  (o0.dst=some d0∧o1.dst=some d1∧o2.dst=some d2∧o3.dst=some d3∧o4.dst=none)∧(o0.guard=none∧o1.guard=none∧o2.guard=none∧o3.guard=none∧o4.guard=none) ∧
  (T st).k=.struct fs∧nth (0,0) fs f=(off,ft)∧f < fs.length∧(T ft).k ≠ .other∧(T ft).size ≠ 0∧(T tv).k ≠ .other∧(T tv).size=1
 d:d0 < N∧d1 < N∧d2 < N∧d3 < N∧x ≠ d0∧y ≠ d0∧d1 ≠ d0∧d2 ≠ d1∧d3 ≠ d1∧d3 ≠ d2∧d2 ≠ d0∧d3 ≠ d0
theorem wpOps_value {ops:Array Oper} {i:Nat} {rest:List Nat} {o:Oper} {n:Nat} {a:Act} {w w':World} {v:Value} (hF:FW F) (ho:ops[i]? = some o) (hg:o.guard=none) (hnd:∀c,o.op ≠ .defer c) (hr:(execOp a.eval o).run P w=.ok (.value v) w') (Q:Exit→Act→World→Prop) :
  wpOpsIn F n P ops Q (i :: rest) a w↔wpOpsIn F n P ops Q rest (a.put o.dst v) w':=by
 have hw:Region.wanted o (yielded ops a.tmps)=true:=by simp[Region.wanted,hg]
 simp only[wpOpsIn,ho,hw,if_true,Oper.wpIn]
 rw[Oper.semAt_eq _ _ _ hnd,hr,Oper.uponIn_value]
 exact⟨fun h=>h.2,fun h=>⟨fun f _=>hF.fn f,h⟩⟩
theorem wpOps_skip {ops:Array Oper} {i:Nat} {rest:List Nat} {o:Oper} {n:Nat} {a:Act} {w w':World} (hF:FW F) (ho:ops[i]? = some o) (hg:o.guard=none) (hnd:∀c,o.op ≠ .defer c) (hr:(execOp a.eval o).run P w=.ok .skip w') (Q:Exit→Act→World→Prop) :
  wpOpsIn F n P ops Q (i :: rest) a w↔wpOpsIn F n P ops Q rest (a.put o.dst undef) w':=by
 have hw:Region.wanted o (yielded ops a.tmps)=true:=by simp[Region.wanted,hg]
 simp only[wpOpsIn,ho,hw,if_true,Oper.wpIn]
 rw[Oper.semAt_eq _ _ _ hnd,hr,Oper.uponIn_skip]
 exact⟨fun h=>h.2,fun h=>⟨fun f _=>hF.fn f,h⟩⟩
theorem put_ops (hT:TabOk P T) (hF:FW F) {ops:Array Oper} {x y d0 d1 d2 d3 off:Nat} (hp:PutOps T N ops x y d0 d1 d2 d3 off) {n:Nat} {a:Act} {w:World} {c:Nat} {v old:Value} (ha:a.tmps.size=N) (hx:a.tmps.getD x undef=.pointer (some ⟨c,0,none⟩))
  (hy:a.tmps.getD y undef=v) (hone:v.oneCell'=true) (hcl:v.cells=#[v]) (hcell:w.cell? ⟨c,off,none⟩=some old) (hfz:w.frozen? ⟨c,off,none⟩=false) :
  ∃a',(∀Q,wpOpsIn F n P ops Q [0,1,2,3,4] a w↔Q .normal a' (w.setCell ⟨c,off,none⟩ v))∧a'.defers=a.defers∧a'.tmps.size=N∧∀i,i ≠ d0→i ≠ d1→i ≠ d2→i ≠ d3→a'.tmps.getD i undef=a.tmps.getD i undef:=by
 obtain⟨⟨o0,o1,o2,o3,o4,st,f,ft,tv,fs,rfl,⟨e0,e1,e2,e3,e4⟩,⟨q0,q1,q2,q3,q4⟩,⟨g0,g1,g2,g3,g4⟩,hk,hnth,hf,hft,hfz0,htv,hsz⟩,hd0,hd1,hd2,hd3,hxd,hyd,h10,h21,h31,h32,h20,h30⟩:=hp
 obtain⟨fields,fd,hu,hfd,he⟩:=hT.field hk (by simpa[Nat.blt_eq]using hf)
 have hoff:fd.offset=off:=by rw[hnth]at he;exact(Prod.mk.inj he).1.symm▸rfl
 have hty:fd.type=ft:=by rw[hnth]at he;exact(Prod.mk.inj he).2.symm▸rfl
 subst hty
 subst hoff
 have nd:∀{o:Oper} {p:Op},o.op=p→(∀c,p ≠ .defer c)→∀c,o.op ≠ .defer c:=fun h1 h2 c e=>h2 c (h1▸e)
 have r0:∀w:World,(execOp a.eval o0).run P w=.ok (.value (.pointer (some ⟨c,0,none⟩))) w:=fun w=>by
  simp only[execOp,e0,Act.eval,hx,Sem.run_pure]
 have h:=fun Q=>wpOps_value (F:=F) (n:=n) (ops:=#[o0,o1,o2,o3,o4]) (o:=o0) (i:=0) (rest:=[1,2,3,4]) hF rfl g0 (nd e0 (by simp)) (r0 w) Q
 rw[q0]at h
 have s0:(a.put (some d0) (.pointer (some ⟨c,0,none⟩))).tmps.size=N:=by simp[Act.put,ha]
 have gy:(a.put (some d0) (.pointer (some ⟨c,0,none⟩))).tmps.getD y undef=v:=by rw[put_getD (by omega),if_neg (Ne.symm hyd),hy]
 have gx:(a.put (some d0) (.pointer (some ⟨c,0,none⟩))).tmps.getD d0 undef=.pointer (some ⟨c,0,none⟩):=by rw[put_getD (by omega),if_pos rfl]
 have ho:∀i,i ≠ d0→(a.put (some d0) (.pointer (some ⟨c,0,none⟩))).tmps.getD i undef=a.tmps.getD i undef:=fun i hi=>by rw[put_getD (by omega),if_neg (Ne.symm hi)]
 have df0:(a.put (some d0) (.pointer (some ⟨c,0,none⟩))).defers=a.defers:=rfl
 generalize a.put (some d0) (.pointer (some ⟨c,0,none⟩))=a0 at h s0 gy gx ho df0
 have r1:(execOp a0.eval o1).run P w=.ok (.value v) w:=by
  simp only[execOp,e1,Act.eval,gy,Sem.run_pure]
 have h:=fun Q=>(h Q).trans <| wpOps_value (F:=F) (n:=n) (ops:=#[o0,o1,o2,o3,o4]) (o:=o1) (i:=1) (rest:=[2,3,4]) hF rfl g1 (nd e1 (by simp)) r1 Q
 rw[q1]at h
 have s1:(a0.put (some d1) v).tmps.size=N:=by simp[Act.put,s0]
 have gy1:(a0.put (some d1) v).tmps.getD d1 undef=v:=by rw[put_getD (by omega),if_pos rfl]
 have gx1:(a0.put (some d1) v).tmps.getD d0 undef=.pointer (some ⟨c,0,none⟩):=by rw[put_getD (by omega),if_neg h10,gx]
 have ho1:∀i,i ≠ d0→i ≠ d1→(a0.put (some d1) v).tmps.getD i undef=a.tmps.getD i undef:=fun i h1 h2=>by rw[put_getD (by omega),if_neg (Ne.symm h2),ho i h1]
 have df1:(a0.put (some d1) v).defers=a.defers:=df0
 generalize a0.put (some d1) v=a1 at h s1 gy1 gx1 ho1 df1
 have r2:(execOp a1.eval o2).run P w=.ok (.value (.pointer (some ⟨c,0,none⟩))) w:=by
  simp only[execOp,e2,Act.eval,gx1,Sem.run_pure]
 have h:=fun Q=>(h Q).trans <| wpOps_value (F:=F) (n:=n) (ops:=#[o0,o1,o2,o3,o4]) (o:=o2) (i:=2) (rest:=[3,4]) hF rfl g2 (nd e2 (by simp)) r2 Q
 rw[q2]at h
 have s2:(a1.put (some d2) (.pointer (some ⟨c,0,none⟩))).tmps.size=N:=by simp[Act.put,s1]
 have gy2:(a1.put (some d2) (.pointer (some ⟨c,0,none⟩))).tmps.getD d1 undef=v:=by rw[put_getD (by omega),if_neg h21,gy1]
 have gx2:(a1.put (some d2) (.pointer (some ⟨c,0,none⟩))).tmps.getD d2 undef=.pointer (some ⟨c,0,none⟩):=by rw[put_getD (by omega),if_pos rfl]
 have ho2:∀i,i ≠ d0→i ≠ d1→i ≠ d2→(a1.put (some d2) (.pointer (some ⟨c,0,none⟩))).tmps.getD i undef=a.tmps.getD i undef:=fun i h1 h2 h3=>by rw[put_getD (by omega),if_neg (Ne.symm h3),ho1 i h1 h2]
 have df2:(a1.put (some d2) (.pointer (some ⟨c,0,none⟩))).defers=a.defers:=df1
 generalize a1.put (some d2) (.pointer (some ⟨c,0,none⟩))=a2 at h s2 gy2 gx2 ho2 df2
 have r3:(execOp a2.eval o3).run P w=.ok (.value (.pointer (some ⟨c,fd.offset,none⟩))) w:=by
  have run:(Instr.fieldAt st (.pointer (some ⟨c,0,none⟩)) f).run P w=.ok (.pointer (some ⟨c,fd.offset,none⟩)) w:=by
   simp[Instr.fieldAt,run_underlying hu,hfd,Instr.sureAddr,fieldPlace,hT.sizeOf hft,hfz0,add_none]
  simp only[execOp,e3,Act.eval,gx2,Sem.run_bind,run,Result.andThen_ok,Sem.run_pure]
 have h:=fun Q=>(h Q).trans <| wpOps_value (F:=F) (n:=n) (ops:=#[o0,o1,o2,o3,o4]) (o:=o3) (i:=3) (rest:=[4]) hF rfl g3 (nd e3 (by simp)) r3 Q
 rw[q3]at h
 have s3:(a2.put (some d3) (.pointer (some ⟨c,fd.offset,none⟩))).tmps.size=N:=by simp[Act.put,s2]
 have gy3:(a2.put (some d3) (.pointer (some ⟨c,fd.offset,none⟩))).tmps.getD d1 undef=v:=by rw[put_getD (by omega),if_neg h31,gy2]
 have gx3:(a2.put (some d3) (.pointer (some ⟨c,fd.offset,none⟩))).tmps.getD d3 undef=.pointer (some ⟨c,fd.offset,none⟩):=by rw[put_getD (by omega),if_pos rfl]
 have ho3:∀i,i ≠ d0→i ≠ d1→i ≠ d2→i ≠ d3→(a2.put (some d3) (.pointer (some ⟨c,fd.offset,none⟩))).tmps.getD i undef=a.tmps.getD i undef:=fun i h1 h2 h3 h4=>by rw[put_getD (by omega),if_neg (Ne.symm h4),ho2 i h1 h2 h3]
 have df3:(a2.put (some d3) (.pointer (some ⟨c,fd.offset,none⟩))).defers=a.defers:=df2
 generalize a2.put (some d3) (.pointer (some ⟨c,fd.offset,none⟩))=a3 at h s3 gy3 gx3 ho3 df3
 have hst:(store ⟨c,fd.offset,none⟩ v .plain).run P w=.ok () (w.setCell ⟨c,fd.offset,none⟩ v):=by
  rw[run_store P w _ v .plain hone,hcell,hfz]
  rfl
 have r4:(execOp a3.eval o4).run P w=.ok .skip (w.setCell ⟨c,fd.offset,none⟩ v):=by
  simp only[execOp,e4,Act.eval,gx3,gy3,Instr.storeAt,Instr.sureAddr,storeVar,Sem.run_bind,Sem.run_pure,Result.andThen_ok,hT.sizeOf htv,hcl,hsz,List.size_toArray,List.length_cons,List.length_nil,ne_eq,not_true_eq_false,if_false,storeCells,add_none,Nat.add_zero,hst]
 have h:=fun Q=>(h Q).trans (wpOps_skip (F:=F) (n:=n) (ops:=#[o0,o1,o2,o3,o4]) (o:=o4) (i:=4) (rest:=[]) hF rfl g4 (nd e4 (by simp)) r4 Q)
 rw[q4]at h
 exact⟨a3,h,df3,s3,ho3⟩
theorem vlo_put (hT:TabOk P T) (hm:P.follows .mixedOrders=true) (hF:FW F) {base idX idL idR b0 x y z d0 d1 d2 d3 off nx2:Nat} {opsX opsL opsR:Array Oper} {s:St} {K:Ex→Heap→Nat→St→Prop} {fr:Bool} {ty:TypeId} {cells:List V} {vy vz:V}
  (hx:s.get x=.ptr b0 0) (hy:s.get y=vy) (hvy:Free vy∧Cold vy) (hy1:vy.one=true) (hb0:hget s.h b0=some (.var fr ty cells)) (hcells:∀v∈cells,Free v∧Cold v) (hoff:off < cells.length)
  (hpo:PutOps T N opsL x y d0 d1 d2 d3 off) (hz:z ≠ d0∧z ≠ d1∧z ≠ d2∧z ≠ d3) (hvz:Free vz∧Fresh vz)
  (h:∀u:Nat→Value,drawK P T N opsX.toList opsX.toList ⟨[(x,.pin (u x) (.iptr false cells)),(y,.pin (u y) vy)],[],0⟩ [] (fun fps s2=>drawOk opsX.toList fps=true∧(∃q,s2.get x=.pin (u x) q)∧(∃q,s2.get y=.pin (u y) q)∧Wk 0 N s2 ⟨[(z,vz)],[],nx2⟩))
  (hL:runOps P T N opsL.toList opsL.toList ⟨[(x,.ptr b0 0),(y,vy)],s.h,s.nx⟩ (fun s3=>runOps P T N opsR.toList opsR.toList ⟨[(z,vz)],[],0⟩ (fun s4=>K .ret s3.h s3.nx s4))) :
  VLo P F N base (.seq (.region idX opsX true) (.seq (.region idL opsL false) (.seq (.region idR opsR false) .ret))) s K:=by
 intro n G a w hs hb
 let B:=w.heap.size
 let G2:Gh:=⟨fun _=>none,fun c=>G.amb c∨∃b blk,hget s.h b=some blk∧G.ι b=some c,B⟩
 have hfc:∀{v:V} {u:Value},Free v→Cold v→vr G w v u→vr G2 w v u:=fun hf hc hv=>
  hf _ _ _ _ _ (hc _ _ _ (imm G2 w) _ (fun a u hi=>⟨hi.1,.inl hi.2.1,(fun h=>by cases h),hi.2.2.2⟩) hv)
 have ht:Two base G w G s.h s.nx G2 w:=⟨hs.hr,Evo.refl _ _ _,hb,fun c hc=>⟨hs.hr.amb_lt c hc,.inl hc⟩,hs.hr.lt,fun b blk c q1 q2=>.inr ⟨b,blk,q1,q2⟩,Nat.le_refl _,(fun b c hc _=>by cases hc),fun c hc _=>by
  rcases hc with hc|⟨b,_,_,hc⟩
  ·exact .inl hc
  ·exact .inr ⟨b,hc⟩⟩
 have hxv:=hs.tmp x
 rw[hx]at hxv
 have hyv:=hs.tmp y
 rw[hy]at hyv
 obtain⟨c,hc,hux⟩:∃c,G.ι b0=some c∧a.tmps.getD x undef=.pointer (some ⟨c,0,none⟩):=by
  generalize a.tmps.getD x undef=q at hxv
  cases hxv with
  | ptr _ _ c hc=>exact⟨c,hc,rfl⟩
 have hown:Holds G w b0 fr true ty cells:=hs.hr.own b0 _ hb0
 obtain⟨c',cs,g1,g2,g3,g4,g5,g6,g7⟩:=hown
 rw[hc]at g1
 obtain rfl:c=c':=Option.some.inj g1
 have hip:vr G2 w (.iptr false cells) (a.tmps.getD x undef):=by
  rw[hux]
  refine .iptr false cells ⟨c,0,none⟩ (fun j=>(cs[j]?).getD undef) rfl (fun j v hj=>?_) (fun j v hj=>?_)
  ·obtain⟨u,hu,h1,_⟩:=g6 j v hj
   have e:(cs[j]?).getD undef=u:=by rw[hu];rfl
   rw[e]
   exact⟨by simp[rd,World.cell?,g2,hu],.inr ⟨b0,_,hb0,hc⟩,(fun h=>by cases h),fun _=>h1⟩
  ·obtain⟨u,hu,_,hv⟩:=g6 j v hj
   have e:(cs[j]?).getD undef=u:=by rw[hu];rfl
   rw[e]
   obtain⟨z1,z2⟩:=hcells v (List.mem_of_getElem? hj)
   exact hfc z1 z2 hv
 have hs2:Sim G2 N ⟨[(x,.pin (a.tmps.getD x undef) (.iptr false cells)),(y,.pin (a.tmps.getD y undef) vy)],[],0⟩ a w:=by
  refine⟨hs.size,fun i=>?_,⟨fun c hc=>?_,Nat.le_refl _,fun _ _=>rfl,fun b blk h=>by simp[hget]at h,fun b b' k k' c h=>by simp[hget]at h,fun b k c h=>by simp[hget]at h,(fun b c h=>by cases h),fun b k h=>by simp[hget]at h,hs.hr.gl.to (fun _ h=>.inl h) (fun _ _=>rfl)⟩⟩
  ·show vr G2 w (look [(x,_),(y,_)] i) _
   rw[look_cons]
   by_cases h1:x=i
   ·subst h1;rw[if_pos rfl];exact .pin _ _ hip
   ·rw[if_neg h1,look_cons]
    by_cases h2:y=i
    ·subst h2;rw[if_pos rfl];exact .pin _ _ (hfc hvy.1 hvy.2 hyv)
    ·rw[if_neg h2];exact .any _
  ·rcases hc with hc|⟨b,_,_,hc⟩
   ·exact hs.hr.amb_lt c hc
   ·exact hs.hr.lt b c hc
 have hgl:∀p∈glob,G.amb p.1:=fun p hp=>(hs.hr.gl p hp).1
 have hdraw:=h (fun i=>a.tmps.getD i undef)
 refine wpIn_seq (wp_draw_cut hT hm hF hs2 (Nat.zero_le _) (m:=opsX.toList.length) (Nat.le_refl _) (KS:=fun s2=>(∃q,s2.get x=.pin (a.tmps.getD x undef) q)∧(∃q,s2.get y=.pin (a.tmps.getD y undef) q)∧Wk 0 N s2 ⟨[(z,vz)],[],nx2⟩) (base:=0) ?_ fun s2 a1 w1 G2a hk hs1 hb1 he hd=>?_)
 ·rw[List.take_length]
  have e:(fun(fps:List FP) (s2:St)=>drawOk opsX.toList fps=true∧(∃q,s2.get x=.pin (a.tmps.getD x undef) q)∧(∃q,s2.get y=.pin (a.tmps.getD y undef) q)∧Wk 0 N s2 ⟨[(z,vz)],[],nx2⟩)=fun fps s2=>(drawOkN opsX.toList opsX.toList.length fps && tailOk opsX.toList opsX.toList.length)=true∧(∃q,s2.get x=.pin (a.tmps.getD x undef) q)∧(∃q,s2.get y=.pin (a.tmps.getD y undef) q)∧Wk 0 N s2 ⟨[(z,vz)],[],nx2⟩:=by
   funext fps s2
   rw[drawOk_eq]
  rw[← e]
  exact hdraw
 obtain⟨⟨qx,hpx⟩,⟨qy,hpy⟩,hwk⟩:=hk
 have pinned:∀{i:Nat} {q:V},s2.get i=.pin (a.tmps.getD i undef) q→a1.tmps.getD i undef=a.tmps.getD i undef:=by
  intro i q hq
  have hi:=hs1.tmp i
  rw[hq]at hi
  generalize a1.tmps.getD i undef=u1 at hi
  cases hi with
  | pin=>rfl
 have ex:=pinned hpx
 have ey:=pinned hpy
 have t1:=ht.step he
 have ag1:Agr G G s.h w w1:=⟨he.size,rfl,rfl,fun _ h=>h,fun c hc=>he.keep c (ht.amb c hc).2,fun b blk c hb hc=>he.keep c (ht.own b blk c hb hc),fun b c m _ hm=>he.csz c m hm⟩
 obtain⟨G2b,hs1b,he2,_⟩:=hwk G2a a1 w1 hs1 (Nat.zero_le _)
 have t2:=t1.step he2
 have hBa:G2b.B=B:=by rw[he2.B,he.B]
 have e0:List.range' opsX.toList.length (opsX.toList.length - opsX.toList.length)=[]:=by simp
 rw[e0]
 show wpOpsIn F n P opsX _ [] a1 w1
 refine wpIn_seq (wpIn_region ?_)
 -- the store,below the mark
 have hsL:Sim G N ⟨[(x,.ptr b0 0),(y,vy)],s.h,s.nx⟩ a1 w1:=by
  refine⟨hs1.size,fun i=>?_,t1.hr⟩
  show vr G w1 (look [(x,_),(y,_)] i) _
  rw[look_cons]
  by_cases h1:x=i
  ·subst h1;rw[if_pos rfl,ex];exact ag1.vr hxv
  ·rw[if_neg h1,look_cons]
   by_cases h2:y=i
   ·subst h2;rw[if_pos rfl,ey];exact ag1.vr hyv
   ·rw[if_neg h2];exact .any _
 have hcw:w1.heap[c]? = some (.cells cs ty (0,0)):=(ag1.own b0 _ c hb0 hc).trans g2
 have hjl:off < cs.size:=Nat.lt_of_lt_of_le hoff g3
 have hcell:w1.cell? ⟨c,off,none⟩=some cs[off]:=by simp[World.cell?,hcw,hjl]
 have hfz:w1.frozen? ⟨c,off,none⟩=false:=by simp[World.frozen?,hcw]
 have hone:(a1.tmps.getD y undef).oneCell'=true:=VR.one' hy1 (by rw[ey];exact hyv)
 have hcl:(a1.tmps.getD y undef).cells=#[a1.tmps.getD y undef]:=VR.one_cells hy1 (by rw[ey];exact hyv)
 have hlist:List.range opsL.size=[0,1,2,3,4]:=by
  obtain⟨⟨o0,o1,o2,o3,o4,_,_,_,_,_,rfl,_⟩,_⟩:=hpo
  rfl
 obtain⟨a2,hiff,hd2,hsz2,ho2⟩:=put_ops hT hF (n:=n) hpo hs1.size (by rw[ex];exact hux) rfl hone hcl hcell hfz
 rw[hlist,hiff]
 have hrun:=runOps_ok (n:=n) hT hF (rest:=opsL.toList) (all:=opsL.toList) (k:=0) (base:=base) (Q:=fun e a' w'=>e=.normal∧∃s3 G',runOps P T N opsR.toList opsR.toList ⟨[(z,vz)],[],0⟩ (fun s4=>K .ret s3.h s3.nx s4)∧Sim G' N s3 a' w'∧Evo base G w1 G' w'∧base≤s3.nx) (fun i=>by simp) hL hsL hb
  (fun s' a' w' G' q1 q2 q3 q4 q5=>⟨rfl,s',G',q1,q2,q3,q4⟩)
 rw[← List.range_eq_range',show opsL.toList.length=opsL.size by simp,hlist,show opsL.toList.toArray=opsL by simp,hiff]at hrun
 obtain⟨_,s3,G',hR,hs3,he3,hb3⟩:=hrun
 generalize hw2:w1.setCell ⟨c,off,none⟩ (a1.tmps.getD y undef)=w2 at *
 have hch:Ch w1 w2 ⟨c,off,none⟩ (a1.tmps.getD y undef):=hw2▸ch_setCell hcell
 have hBw:B≤w1.heap.size:=he.size
 have hcB:c < B:=hs.hr.lt _ _ hc
 have hltB:∀c,G'.amb c→c < B:=fun c' h'=>by
  have h1:c' < w2.heap.size:=hs3.hr.amb_lt c' h'
  rw[hch.size]at h1
  rcases he3.ambn c' h' h1 with h2|⟨b,h2⟩
  ·exact hs.hr.amb_lt c' h2
  ·exact hs.hr.lt b c' h2
 have hltB2:∀b c,G'.ι b=some c→c < B:=fun b c' h'=>by
  have h1:c' < w2.heap.size:=hs3.hr.lt b c' h'
  rw[hch.size]at h1
  obtain⟨b',h2⟩:=he3.idn b c' h' h1
  exact hs.hr.lt b' c' h2
 have hlow:Low base G w G' s3.h s3.nx B w2:=⟨hs3.hr,t1.evo.trans he3,hb3,hltB,hltB2,Nat.le_refl _⟩
 -- what is answered,behind the mark
 let G3:Gh:=⟨fun _=>none,fun c=>(B≤c∧G2b.amb c)∨∃p∈glob,p.1=c,B⟩
 have hzv:vr G3 w2 vz (a2.tmps.getD z undef):=by
  rw[ho2 z hz.1 hz.2.1 hz.2.2.1 hz.2.2.2]
  have hzz:=hs1b.tmp z
  rw[show St.get ⟨[(z,vz)],[],nx2⟩ z=vz by simp[St.get,look,Nat.beq_refl]]at hzz
  refine VR.mono (ι:=G3.ι) (fun _ _ h=>h) hch.csz (fun _ _ _ h=>h) (hvz.1 _ _ _ _ _ (hvz.2 _ _ _ (imm G3 w2) _ (fun ad u hi=>?_) hzz))
  have h1:=(hi.2.2.1 rfl).1
  rw[hBa]at h1
  have hne:ad.block ≠ c:=by omega
  have hsame:w2.heap[ad.block]? = w1.heap[ad.block]?:=hch.other _ hne
  exact⟨(rd_of_block hsame).trans hi.1,.inl ⟨h1,hi.2.1⟩,fun _=>⟨h1,by rw[frozen_of_block hsame];exact(hi.2.2.1 rfl).2⟩,hi.2.2.2⟩
 have hs3':Sim G3 N ⟨[(z,vz)],[],0⟩ a2 w2:=by
  refine⟨hsz2,fun i=>?_,⟨fun c' h'=>?_,by rw[hch.size];exact hBw,fun _ _=>rfl,fun b blk h=>by simp[hget]at h,fun b b' k k' c h=>by simp[hget]at h,fun b k c h=>by simp[hget]at h,(fun b c h=>by cases h),fun b k h=>by simp[hget]at h,fun p hp=>⟨.inr ⟨p,hp,rfl⟩,?_⟩⟩⟩
  ·show vr G3 w2 (look [(z,vz)] i) _
   rw[look_cons]
   by_cases h1:z=i
   ·subst h1;rw[if_pos rfl];exact hzv
   ·rw[if_neg h1];exact .any _
  ·rcases h' with⟨_,h'⟩|⟨p,hp,rfl⟩
   ·rw[hch.size];exact hs1b.hr.amb_lt c' h'
   ·have:=hs.hr.amb_lt _ (hgl p hp);rw[hch.size];omega
  ·obtain⟨o,h1,h2⟩:=(t1.hr.gl p hp).2
   refine⟨o,?_,h2⟩
   have hne:p.1 ≠ c:=fun e=>hs.hr.apart b0 _ c hb0 hc (e▸hgl p hp)
   rw[hch.other _ hne]
   exact h1
 have hpost:∀(s4:St) (a3:Act) (w3:World) (G4:Gh),K .ret s3.h s3.nx s4→Sim G4 N s4 a3 w3→Evo 0 G3 w2 G4 w3→a3.defers=a2.defers→PostLo N base G w a.defers K .ret a3 w3:=by
  intro s4 a3 w3 G4 q1 q2 q3 q5
  have hbel:Below B w2 w3:=⟨q3.os,q3.tape,q3.output,q3.size,fun k hk=>q3.keepu k (by rw[hch.size];omega) (fun b h=>by cases h)⟩
  obtain⟨hl',ag3⟩:=hlow.below hbel
  have hB4:G4.B=B:=q3.B
  have hidn:∀b c,G4.ι b=some c→G4.B≤c:=fun b c' h'=>by
   rw[hB4]
   rcases Nat.lt_or_ge c' w2.heap.size with h1|h1
   ·obtain⟨b',h2⟩:=q3.idn b c' h' h1
    cases h2
   ·rw[hch.size]at h1;omega
  refine⟨.ret,s3.h,s3.nx,G',s4,G4,rfl,q1,by rw[hB4];exact hl',q2,⟨[],by rw[q5,hd2,hd];rfl,by simp,.nil⟩,hidn,fun c' h'=>?_⟩
  rw[hB4]
  rcases Nat.lt_or_ge c' w2.heap.size with h1|h1
  ·rcases q3.ambn c' h' h1 with(⟨h2,_⟩|⟨p,hp,rfl⟩)|⟨b,h2⟩
   ·exact .inl h2
   ·exact .inr ((hs3.hr.gl p hp).1)
   ·cases h2
  ·left;rw[hch.size]at h1;omega
 refine wpIn_seq (wpIn_mono (Q:=fun e a3 w3=>e=.normal∧PostLo N base G w a.defers K .ret a3 w3) (wpIn_region ?_) ?_)
 ·have hfin:=runOps_ok (n:=n) hT hF (rest:=opsR.toList) (all:=opsR.toList) (k:=0) (base:=0) (Q:=fun e a3 w3=>e=.normal∧PostLo N base G w a.defers K .ret a3 w3) (fun i=>by simp) hR hs3' (Nat.zero_le _)
   (fun s4 a3 w3 G4 q1 q2 q3 _ q5=>⟨rfl,hpost s4 a3 w3 G4 q1 q2 q3 q5⟩)
  rw[List.range_eq_range']
  simpa using hfin
 ·rintro e a3 w3 ⟨rfl,hp⟩
  exact wpIn_ret hp
theorem callB_of_lo (hT:TabOk P T) {f:FuncId} {fn:Func} {body:Code} (hf:P.funcs[f]? = some fn) (hb:fn.body=some body) (hn:fn.name ≠ "runtime.NumGoroutine") {args:List V} {h:Heap} {nx:Nat} {R:V→Heap→Nat→Prop}
  (hl:args.length≤fn.ntmps)
  (hv:VLo P Fence.wide fn.ntmps nx body ⟨zipT args 0,h,nx⟩ (fun e h1 nx1 s2=>match e with
   | .normal|.ret=>resK T s2 fn.results.toList fun v=>∃v' h' nx',Ends 0 s2 v v' h' nx'∧Free v'∧Fresh v'∧R v' h1 nx1
   | _=>False)):CallB P f args h nx R:=by
 refine⟨⟨fn,hf⟩,fun G w us hr hargs=>.inl ⟨⟨fn,hf,by simp[hb],hn⟩,(callsIn_wide (n:=0)).1 (callsIn_of_wp_marks hf hb trivial ?_)⟩⟩
 have hsim:Sim G fn.ntmps ⟨zipT args 0,h,nx⟩ { tmps:=us.toArray ++ Array.replicate (fn.ntmps - us.toArray.size) undef,defers:=[] } w:=by
  have hul:us.length=args.length:=hargs.1.symm
  refine⟨by simp;omega,fun i=>?_,hr⟩
  simp only[St.get]
  rw[zipT_get]
  split
  ·rename_i hi
   have hi1:i < args.length:=by omega
   have hi2:i < us.length:=by omega
   have e1:args.getD (i - 0) .any=args[i]:=by simp[hi1]
   rw[e1]
   have e2:(us.toArray ++ Array.replicate (fn.ntmps - us.toArray.size) undef).getD i undef=us[i]:=by
    rw[Array.getD_eq_getD_getElem?,Array.getElem?_append_left (by simpa using hi2)]
    simp[hi2]
   rw[e2]
   exact hargs.2 i _ _ (List.getElem?_eq_getElem hi1) (List.getElem?_eq_getElem hi2)
  ·exact .any _
 refine wpIn_mono (hv 0 G _ w hsim (Nat.le_refl _)) ?_
 rintro e a' w' ⟨e',h1,nx1,G1,s',G',rfl,hq,ht,hs',hd,_,_⟩
 obtain⟨ms,hms,hmk,hpw⟩:=hd
 rw[List.append_nil]at hms
 have fin:resK T s' fn.results.toList (fun v=>∃v' h' nx',Ends 0 s' v v' h' nx'∧Free v'∧Fresh v'∧R v' h1 nx1)→∀w'',Shut ms w' w''→∃v,(results fn a'.tmps).run P w''=.ok v w'' ∧
   ∃u v1 h' nx' G' B',Ending.returned v=.returned u∧R v1 h' nx'∧HR G' h' nx' w''∧Evo nx G w G' w''∧nx≤nx'∧(∀c,G'.amb c→c < B')∧(∀b c,G'.ι b=some c→c < B')∧w.heap.size≤B'∧B'≤w''.heap.size∧vr (Gh.from w'' B') w'' v1 u:=by
  intro hq w'' hsh
  have hs':=hs'.shut hsh (fun r hr=>(hmk r hr).2.2.2)
  have hmw:∀c,c < w.heap.size→c ∉ ms:=fun c hc hm=>by have:=(hmk c hm).1;omega
  have ag:Agr G1 G1 h1 w' w'':=⟨by rw[hsh.size];exact Nat.le_refl _,rfl,rfl,fun _ h=>h,fun c hc=>hsh.heap c (fun hm=>(hmk c hm).2.2.1.2 hc),fun b blk c q1 q2=>hsh.heap c (fun hm=>(hmk c hm).2.2.1.1 b q2),fun b c m _ hm=>hsh.dead c m hm⟩
  have he:=ht.evo
  have he:Evo nx G w G1 w'':=⟨hsh.os.trans he.os,hsh.tape.trans he.tape,hsh.output.trans he.output,by rw[hsh.size];exact he.size,he.B,he.amb,fun c hc=>(hsh.heap c (hmw c (hr.amb_lt c hc))).trans (he.keep c hc),
   fun c m hm=>hsh.dead c m (he.csz c m hm),he.ids,fun c hc hn=>(hsh.heap c (hmw c hc)).trans (he.keepu c hc hn),he.ambn,he.idn⟩
  clear hmk
  obtain⟨vs,hK,hvs⟩:=resL_out (N:=fn.ntmps) hT hq
  obtain⟨us,hus,hvrs⟩:=hvs G' a' w'' hs'
  have hres:(results fn a'.tmps).run P w''=.ok (if h:us.toArray.size=1 then us.toArray[0]else .tuple us.toArray) w'':=by
   unfold results
   rw[Array.mapM_eq_mapM_toList]
   simp only[Sem.run_bind,Sem.run_map]
   have e:(fn.results.toList.mapM fun(x:ResultVar)=>(match x with|.tmp t=>(pure (a'.tmps.getD t undef):Sem Value)|.cell a t=>do loadVar t (← asAddr (a'.tmps.getD a undef)))).run P w''=.ok us w'':=hus
   erw [e]
   rfl
  have key:∃v,vr G' w'' v (if h:us.toArray.size=1 then us.toArray[0]else .tuple us.toArray)∧∃v' h' nx',Ends 0 s' v v' h' nx'∧Free v'∧Fresh v'∧R v' h1 nx1:=by
   have hl:=hvrs.1
   split at hK
   ·rename_i v
    have h1:us.toArray.size=1:=by simpa using hl.symm
    rw[dif_pos h1]
    have h1':0 < us.length:=by simp at h1;omega
    exact⟨v,by simpa using hvrs.2 0 v us[0] rfl (List.getElem?_eq_getElem h1'),hK⟩
   ·rename_i hne
    have h1:¬ us.toArray.size=1:=by
     intro h1
     have h1':vs.length=1:=by rw[hl];simpa using h1
     obtain⟨v,rfl⟩:=List.length_eq_one_iff.1 h1'
     exact hne v rfl
    rw[dif_neg h1]
    exact⟨.tup vs,.tup vs us hvrs.1 hvrs.2,hK⟩
  obtain⟨v,hvr,v',h',nx',hfin,hfree,hfresh,hR⟩:=key
  obtain⟨G3,q1,q2,q3,q4⟩:=hfin G' w'' _ hs'.hr (Nat.zero_le _) hvr
  have hB3:G3.B=G'.B:=q3.B
  refine⟨_,hres,_,v',h1,nx1,G1,G'.B,rfl,hR,ag.hr ht.hr,he,ht.nx,ht.amb,ht.lt,ht.B,hs'.hr.B_le,?_⟩
  exact hfree _ _ _ _ _ (hfresh _ _ _ (imm (Gh.from w'' G'.B) w'') _ (fun a u hi=>⟨hi.1,⟨by have:=(hi.2.2.1 rfl).1;rw[hB3]at this;exact this,q1.amb_lt _ hi.2.1⟩,fun _=>⟨by have:=(hi.2.2.1 rfl).1;rw[hB3]at this;exact this,(hi.2.2.1 rfl).2⟩,hi.2.2.2⟩) q2)
 cases e' with
 | normal=>show LeavesInM _ _ _ _ _ _ a'.defers _ _;rw[hms];exact leaves_marks (fun r hr=>(hmk r hr).2.1) hpw (fin hq)
 | ret=>show LeavesInM _ _ _ _ _ _ a'.defers _ _;rw[hms];exact leaves_marks (fun r hr=>(hmk r hr).2.1) hpw (fin hq)
 | exit id=>exact hq.elim
 | goto id=>exact hq.elim
end
end
section
open Go.Proofs.Tryz (prog)
attribute [local irreducible] CallV RoundV aggK
structure SelfL where
 sys:UInt32
 id:UInt32
 addr:UInt32
deriving DecidableEq
def cellsSf (s:SelfL):List V:=[cW s.sys,cW s.id,cW s.addr]
def encSf (s:SelfL):V:=.agg (cellsSf s)
theorem encSf_free (s:SelfL):Free (encSf s):=.agg (by intro v hv;simp[cellsSf]at hv;rcases hv with rfl|rfl|rfl<;>exact .int)
instance {s}:FreeI (encSf s):=⟨⟨encSf_free s⟩⟩
def cellsOut (s:SelfL) (pe:Peer) (pol:Policy) (m:List (Prefix × Attrs)):List V:=
 [cW s.sys,cW s.id,cW s.addr,cW pe.sys,cW pe.id,cW pe.addr,.bool pe.inner,encRus false pol.rules,.bool pol.els,.imap false (esA m)]
theorem cellsOut_free (s:SelfL) (pe:Peer) (pol:Policy) (m:List (Prefix × Attrs)):∀v∈cellsOut s pe pol m,Free v:=by
 intro v hv
 simp only[cellsOut,List.mem_cons,List.not_mem_nil,or_false]at hv
 rcases hv with rfl|rfl|rfl|rfl|rfl|rfl|rfl|rfl|rfl|rfl<;>first|exact .int|exact .bool|exact .sl (rowsRu_free _)|exact imapA_free _
instance {s pe pol m}:FreeLI (cellsOut s pe pol m):=⟨⟨cellsOut_free s pe pol m⟩⟩
theorem cloneO_pure (fr fr':Bool) (es:List (V × V)):PCon prog 48 [.imap fr es] (.imap fr' es):=by
 refine pcon_calls (fn:=Go.Proofs.Tryz.f48) Go.Proofs.Tryz.func48 rfl (by decide) fun G w us hr hv=>?_
 obtain⟨u,rfl,hu⟩:=vrs_one hv
 obtain⟨c,arr,clk,rfl,hh,hok,hl,hkv⟩:=imap_out hu
 refine(AnyW.maps_Clone Go.Proofs.Tryz.cloneMapO c arr clk w hh).mono ?_
 rintro e w' ⟨rfl,rfl⟩
 have he:=clone_evo (.map arr clk) hr
 have hd:∀b,0≤b→G.ι b=none:=fun b h=>hr.dom b h
 have hlt:=(Array.getElem?_eq_some_iff.1 (alloc_at w (.map arr clk))).1
 have hB:Below w.heap.size w (w.alloc (.map arr clk)):=(Below.refl _ w).alloc (Nat.le_refl _) _
 have up:∀{v:V} {x:Value},vr G w v x→vr (G.more w (w.alloc (.map arr clk))) (w.alloc (.map arr clk)) v x:=fun h=>
  VR.mono (fun b c h=>by rw[hr.dom b (Nat.zero_le _)]at h;cases h) he.csz (fun fr a u hi=>⟨(he.imm hi).1,.inl hi.2.1,(he.imm hi).2.2⟩) h
 refine⟨_,rfl,hB,.imap fr' es w.heap.size arr clk ⟨rd_map.2 (alloc_at _ _),.inr ⟨Nat.le_refl _,hlt⟩,fun _=>⟨hr.B_le,?_⟩,fun h=>by cases h⟩ hok hl (fun j kv e h1 h2=>up (hkv j kv e h1 h2).1) (fun j kv e h1 h2=>up (hkv j kv e h1 h2).2)⟩
 simp only[World.frozen?,mAddr]
 rw[alloc_at]
abbrev varOut (s:SelfL) (pe:Peer) (pol:Policy) (m:List (Prefix × Attrs)):Option Blk:=some (.var true 97 (cellsOut s pe pol m))
def OutC (f:FuncId) (args:List V) (C C':List V) (R:V→Prop):Prop:=
 CallV prog f args [(0,some (.var true 97 C))] 1 (fun v h nx=>R v∧h=[(0,some (.var true 97 C'))]∧nx=1)
theorem callV_out {f:FuncId} {args args0:List V} {C C':List V} {R:V→Prop} {h:Heap} {nx b:Nat} {K:V→Heap→Nat→Prop} (hc:OutC f args0 C C' R) (hb:hget h b=some (.var true 97 C))
  (hC:∀v∈C,Free v) (hC':∀v∈C',Free v) (ha:LeL h nx (fun _=>b) 1 [] args args0) (hR:∀v,R v→Free v∧K v ((b,some (.var true 97 C')) :: h) nx):CallV prog f args h nx K:=by
 refine callV_ptr (R:=fun v c=>R v∧c=C') (hc.mono ?_) hb hC ha ?_
 ·rintro v h' nx' ⟨h1,rfl,rfl⟩
  exact⟨C',⟨h1,rfl⟩,rfl,rfl⟩
 ·rintro v c ⟨h1,rfl⟩
  exact⟨(hR v h1).1,hC',(hR v h1).2⟩
theorem ocopied_ok (fr:Bool) (p:Policy) (hl:p.rules.length≤1000):PCon prog 34 [encPo fr p] (encPo false p):=by
 have hc:=cloneRu_ok fr p.rules hl
 refine callV_of (fn:=Go.Proofs.Tryz.f34) (body:=_) tab_ok mixed rfl rfl (by decide) (by simp[Go.Proofs.Tryz.f34]) ?_
 conv=>whnf
 refine⟨_,[],fun h nx _=>pureV_pure hc ⟨.fr rfl,trivial⟩,by simp,?_⟩
 conv=>whnf
 refine⟨by kernel_rfl,?_⟩
 conv=>whnf
 exact(Ends.pure [] (by repeat' (first|exact True.intro|exact .aggL ⟨.fresh_off (.fr rfl),.fr rfl,trivial⟩|exact .A|exact LeL.fr rfl|refine .tupL ?_|refine .aggL ?_|refine⟨?_,?_⟩)) (by simp))
theorem onone_ok (s:SelfL) (pe:Peer) (pol:Policy) (m:List (Prefix × Attrs)):OutC 37 [.ptr 0 0] (cellsOut s pe pol m) (cellsOut s pe pol m) (·=.bool false):=by
 unfold OutC
 refine callV_of (fn:=Go.Proofs.Tryz.f37) (body:=_) tab_ok mixed rfl rfl (by decide) (by simp[Go.Proofs.Tryz.f37]) ?_
 conv=>whnf
 exact⟨_,_,_,(Ends.all id [] (by repeat' (first|exact LHa|exact LeL.freeV (cellsOut_free s pe pol m)|exact .A|exact LeL.fr rfl|exact LHb|refine Or.inl ⟨by simp,_,rfl,?_⟩|exact Or.inr ⟨by simp,_,_,_,_,rfl⟩|refine⟨rfl,rfl,rfl,rfl,rfl,rfl,?_⟩|refine⟨?_,?_⟩)) (fun _ _ _ _ h=>h) (fun _ _=>rfl) (by omega) (by simp)),rfl,rfl,rfl⟩
theorem nought_ok (fr:Bool) (l:List UInt32):PCon prog 32 [encW fr l] (.bool (!l.all (· != 0))):=by
 have hc:=contains_ok fr l 0
 refine callV_of (fn:=Go.Proofs.Tryz.f32) (body:=_) tab_ok mixed rfl rfl (by decide) (by simp[Go.Proofs.Tryz.f32]) ?_
 conv=>whnf
 refine callV_pure hc ⟨.fr rfl,.fr rfl,trivial⟩ ?_
 conv=>whnf
 exact(Ends.pA)
theorem oright_ok (fr:Bool) (r:Route):PCon prog 45 [encRt fr r] (.bool (prefOk r.pfx && rightA r.attrs)):=by
 have h1:=uRight_ok r.pfx
 have h2:=check_ok fr r.attrs
 refine callV_of (fn:=Go.Proofs.Tryz.f45) (body:=_) tab_ok mixed rfl rfl (by decide) (by simp[Go.Proofs.Tryz.f45]) ?_
 conv=>whnf
 refine callV_pure h1 ⟨.fr rfl,trivial⟩ ?_
 cases hp:prefOk r.pfx with
 | false=>
  conv=>whnf
  exact(Ends.pA)
 | true=>
  conv=>whnf
  refine callV_pure h2 ⟨.fr rfl,trivial⟩ ?_
  cases hr:rightA r.attrs with
  | false=>
   rw[checkA,hr]
   conv=>whnf
   exact(Ends.pA)
  | true=>
   rw[checkA,hr]
   conv=>whnf
   exact(Ends.pA)
def newO (s:SelfL) (pe:Peer) (pol:Policy):Bool:=decide (s.id ≠ 0)&& decide (s.addr ≠ 0)&& peerB s.sys pe && decide (checkP pol=0)
theorem newO_out {s:SelfL} {pe:Peer} {pol:Policy} (h:newO s pe pol=true):[s.sys,s.id,s.addr,pe.sys,pe.id,pe.addr].all (· != 0)=true∧pe.inner=decide (pe.sys=s.sys)∧checkP pol=0:=by
 simp only[newO,peerB,Bool.and_eq_true,decide_eq_true_eq]at h
 obtain⟨⟨⟨h1,h2⟩,⟨⟨⟨h3,h4⟩,h5⟩,h6⟩,h7⟩,h8⟩:=h
 refine⟨by simp[*],by simpa using h7,h8⟩
theorem newO_ok (s:SelfL) (pe:Peer) (pol:Policy) (h:newO s pe pol=true):CallV prog 11 [encSf s,encPe pe,encPo false pol] [] 0 (fun v h nx=>v=.tup [.ptr 0 0,.int .i64 0]∧h=[(0,varOut s pe pol [])]∧nx=1):=by
 obtain⟨h1,h2,h3⟩:=newO_out h
 have rc:=check23_ok false pol
 rw[h3]at rc
 have cp:=ocopied_ok false pol (by have:=pol_small h3;omega)
 have hn:=nought_ok false [s.sys,s.id,s.addr,pe.sys,pe.id,pe.addr]
 rw[h1]at hn
 have e5:(pe.inner != ((pe.sys.toNat:Int) == s.sys.toNat))=false:=by rw[beqW,h2];simp
 refine callV_of (fn:=Go.Proofs.Tryz.f11) (body:=_) tab_ok mixed rfl rfl (by decide) (by simp[Go.Proofs.Tryz.f11]) ?_
 conv=>whnf
 refine callV_lend [3] hn ⟨.fresh_off (LeV.freezeR (by simp) rfl (by simp) (.free (rowsW_free [s.sys,s.id,s.addr,pe.sys,pe.id,pe.addr]))),trivial⟩ (by intro v hv;simp at hv;subst hv;exact encW_cold _) (one_none rfl) .bool ?_
 conv=>whnf
 rw[e5]
 conv=>whnf
 refine callV_pure rc ⟨.fr rfl,trivial⟩ ?_
 conv=>whnf
 refine⟨_,[],fun h nx _=>pureV_pure cp ⟨.fr rfl,trivial⟩,by simp,?_⟩
 conv=>whnf
 refine⟨by kernel_rfl,?_⟩
 conv=>whnf
 exact⟨.tup [.ptr 0 0,.int .i64 0],[(0,varOut s pe pol [])],1,(Ends.all (renOf [(0,5)]) [4] (by repeat' (first|exact LHa|exact Or.inl ⟨by decide,_,rfl,id,rfl,.fr rfl,.fr rfl,.fr rfl,.fr rfl,.fr rfl,.fr rfl,.fr rfl,.fr rfl,.fr rfl,LeV.freezeM (by simp) rfl rfl (by simp),trivial⟩|exact .tupL ⟨.ptr rfl (by omega),.fr rfl,trivial⟩|exact .A|exact LeL.fr rfl|exact LHb|refine Or.inl ⟨by simp,_,rfl,?_⟩|exact Or.inr ⟨by simp,_,_,_,_,rfl⟩|refine⟨rfl,rfl,rfl,rfl,rfl,rfl,?_⟩|refine⟨?_,?_⟩)) (show ∀b∈([0]:List Nat),∀b'∈([0]:List Nat),(renOf [(0,5)]) b=(renOf [(0,5)]) b'→b=b' by decide) (fun _ h=>by omega) (by omega) (by intro z hz;simp only[List.mem_cons,List.not_mem_nil,or_false]at hz;rcases hz with rfl<;>exact ne_none_of rfl)),rfl,rfl,rfl⟩
theorem newO_bad (s:SelfL) (pe:Peer) (pol:Policy) (h:newO s pe pol=false):PCon prog 11 [encSf s,encPe pe,encPo false pol] (.tup [.nilp,.int .i64 2]):=by
 have rc:=check23_ok false pol
 have hn:=nought_ok false [s.sys,s.id,s.addr,pe.sys,pe.id,pe.addr]
 refine callV_of (fn:=Go.Proofs.Tryz.f11) (body:=_) tab_ok mixed rfl rfl (by decide) (by simp[Go.Proofs.Tryz.f11]) ?_
 conv=>whnf
 refine callV_lend [3] hn ⟨.fresh_off (LeV.freezeR (by simp) rfl (by simp) (.free (rowsW_free [s.sys,s.id,s.addr,pe.sys,pe.id,pe.addr]))),trivial⟩ (by intro v hv;simp at hv;subst hv;exact encW_cold _) (one_none rfl) .bool ?_
 cases h1:[s.sys,s.id,s.addr,pe.sys,pe.id,pe.addr].all (· != 0)with
 | false=>
  conv=>whnf
  exact(Ends.pA)
 | true=>
 conv=>whnf
 cases e5:(pe.inner != ((pe.sys.toNat:Int) == s.sys.toNat))with
 | true=>
  conv=>whnf
  exact(Ends.pA)
 | false=>
 conv=>whnf
 refine callV_pure rc ⟨.fr rfl,trivial⟩ ?_
 have hc:checkP pol ≠ 0:=by
  intro hc
  have:newO s pe pol=true:=by
   have e6:pe.inner=decide (pe.sys=s.sys):=by
    rw[beqW]at e5
    simpa using e5
   simp only[List.all_cons,List.all_nil,Bool.and_eq_true,bne_iff_ne,ne_eq]at h1
   obtain⟨q1,q2,q3,q4,q5,q6,_⟩:=h1
   simp[*,newO,peerB,hc]
  rw[this]at h;cases h
 conv=>whnf
 rw[show(checkP pol != 0)=true by simp[hc]]
 conv=>whnf
 exact(Ends.pA)
end
section
open Go.Proofs.Tryz (prog)
attribute [local irreducible] CallV RoundV aggK
theorem encU_cld (u:Upd):Cold (encU false u):=.agg (by
 intro v hv
 rcases List.mem_cons.1 hv with rfl|hv
 ·exact encPs_cold _
 rcases List.mem_cons.1 hv with rfl|hv
 ·exact encPs_cold _
 simp only[cellsA,List.mem_cons,List.not_mem_nil,or_false]at hv
 rcases hv with rfl|rfl|rfl|rfl|rfl|rfl|rfl|rfl<;>first|exact .int|exact .bool|exact encLegs_cold _|exact encW_cold _)
def noPe:Peer:=⟨0,0,0,false⟩
def ownR (r:Route):Bool:=decide (r.peer=noPe)
def sayM (own inner:Bool) (a:Attrs):Attrs:=
 if inner then(if a.hasPref then a else { a with hasPref:=true,pref:=100 })
 else { a with hasPref:=false,pref:=0,hasMed:=a.hasMed && own,med:=if a.hasMed && own then a.med else 0 }
def stepS (s:SelfL) (pe:Peer) (pol:Policy) (r:Route) (a:Attrs):Nat→Option Attrs
 | 0=>if prefOk r.pfx && rightA r.attrs then some a else none
 | 1=>if !decide (r.peer.sys=pe.sys) || !decide (r.peer.id=pe.id) || !decide (r.peer.addr=pe.addr)then some a else none
 | 2=>if ownR r || !pe.inner || !r.peer.inner then some a else none
 | 3=>some (sayM (ownR r) pe.inner a)
 | 4=>if(byR pol s.sys r.pfx a).2 then some (byR pol s.sys r.pfx a).1 else none
 | 5=>if pe.inner then some a else if prepE a s.sys 1=0 then some { prepA a s.sys 1 with next:=s.addr } else none
 | _=>if checkU ⟨[],[r.pfx],a⟩=0 then some a else none
def sayK (s:SelfL) (pe:Peer) (pol:Policy) (r:Route):Nat→Option Attrs
 | 0=>some r.attrs
 | k + 1=>(sayK s pe pol r k).bind fun a=>stepS s pe pol r a k
def sayO (s:SelfL) (pe:Peer) (pol:Policy) (r:Route):Option Attrs:=sayK s pe pol r 7
theorem sayK_none {s:SelfL} {pe:Peer} {pol:Policy} {r:Route}:∀{n k:Nat},sayK s pe pol r k=none→sayK s pe pol r (k + n)=none
 | 0,_,h=>h
 | n + 1,k,h=>by
  show(sayK s pe pol r (k + n)).bind _=none
  rw[sayK_none (n:=n) h]
  rfl
theorem right_sf {a:Attrs} (h:rightA a=true):smallA a∧fewA a=true:=by
 simp only[rightA,pathOk,legOk,Bool.and_eq_true,decide_eq_true_eq,List.all_eq_true]at h
 obtain⟨⟨⟨⟨⟨⟨_,h1,h2⟩,_⟩,_⟩,_⟩,h3⟩,_⟩:=h
 have hp:∀p∈a.path,p.ns.length≤32:=fun p hp=>(h2 p hp).1.1.2
 refine⟨⟨by omega,fun p h=>by have:=hp p h;omega,by omega⟩,?_⟩
 simp only[fewA,Bool.and_eq_true,decide_eq_true_eq,List.all_eq_true]
 exact⟨⟨fun p h=>by have:=hp p h;omega,by omega⟩,by omega⟩
theorem sayK_few {s:SelfL} {pe:Peer} {pol:Policy} {r:Route} {a:Attrs} (h:sayK s pe pol r 6=some a):fewA a=true:=by
 have e6:sayK s pe pol r 6=(sayK s pe pol r 5).bind fun a=>if pe.inner then some a else if prepE a s.sys 1=0 then some { prepA a s.sys 1 with next:=s.addr } else none:=rfl
 have e5:sayK s pe pol r 5=(sayK s pe pol r 4).bind fun a=>if(byR pol s.sys r.pfx a).2 then some (byR pol s.sys r.pfx a).1 else none:=rfl
 rw[e6]at h
 cases h5:sayK s pe pol r 5 with
 | none=>rw[h5]at h;cases h
 | some b=>
  have hb:rightA b=true:=by
   rw[e5]at h5
   cases h4:sayK s pe pol r 4 with
   | none=>rw[h4]at h5;cases h5
   | some c=>
    rw[h4]at h5
    simp only[Option.bind_some]at h5
    split at h5
    ·rename_i hc
     cases h5
     unfold byR at hc ⊢
     split
     ·rename_i he
      rw[if_pos he]at hc;cases hc
     ·rename_i he
      rw[if_neg he]at hc
      exact by_right24 (by simpa using he) hc
    ·cases h5
  rw[h5]at h
  simp only[Option.bind_some]at h
  split at h
  ·cases h;exact(right_sf hb).2
  ·split at h
   ·rename_i hp
    cases h
    exact(right_sf (prep_fine hp).2.2.2.1).2
   ·cases h
def rowsF:List (List V):=[[.fn (.func 72) [] [.ptr 5 0]],[.fn (.func 73) [] [.ptr 5 0,.ptr 4 0]],[.fn (.func 74) [] [.ptr 7 0,.ptr 4 0,.ptr 5 0]],[.fn (.func 75) [] [.ptr 4 0,.ptr 6 0,.ptr 7 0]],[.fn (.func 76) [] [.ptr 4 0,.ptr 5 0,.ptr 6 0]],[.fn (.func 78) [] [.ptr 4 0,.ptr 6 0]],[.fn (.func 80) [] [.ptr 5 0,.ptr 6 0]]]
theorem rowsF_le {h:Heap} {nx nx':Nat} {Z:List Nat} (hn:7 < nx'):LeR h nx id nx' Z rowsF rowsF:=
 ⟨⟨.fnL trivial ⟨.ptr rfl (by omega),trivial⟩,trivial⟩,⟨.fnL trivial ⟨.ptr rfl (by omega),.ptr rfl (by omega),trivial⟩,trivial⟩,⟨.fnL trivial ⟨.ptr rfl (by omega),.ptr rfl (by omega),.ptr rfl (by omega),trivial⟩,trivial⟩,⟨.fnL trivial ⟨.ptr rfl (by omega),.ptr rfl (by omega),.ptr rfl (by omega),trivial⟩,trivial⟩,⟨.fnL trivial ⟨.ptr rfl (by omega),.ptr rfl (by omega),.ptr rfl (by omega),trivial⟩,trivial⟩,⟨.fnL trivial ⟨.ptr rfl (by omega),.ptr rfl (by omega),trivial⟩,trivial⟩,⟨.fnL trivial ⟨.ptr rfl (by omega),.ptr rfl (by omega),trivial⟩,trivial⟩,trivial⟩
theorem bneW (x y:UInt32):((x.toNat:Int) != (y.toNat:Int))=!decide (x=y):=by rw[bne,beqW]
theorem says_ok (s:SelfL) (pe:Peer) (pol:Policy) (m:List (Prefix × Attrs)) (r:Route) (hs:smallA r.attrs) :
  OutC 14 [.ptr 0 0,encRt false r] (cellsOut s pe pol m) (cellsOut s pe pol m) (·=optV true (sayO s pe pol r)):=by
 have hcp:=copy_pure false r.attrs hs.1 hs.2.1 hs.2.2
 unfold OutC
 refine callV_of (fn:=Go.Proofs.Tryz.f14) (body:=_) tab_ok mixed rfl rfl (by decide) (by simp[Go.Proofs.Tryz.f14]) ?_
 conv=>whnf
 refine callV_out (onone_ok s pe pol m) rfl (cellsOut_free _ _ _ _) (cellsOut_free _ _ _ _) ⟨.ptr rfl (by omega),trivial⟩ ?_
 rintro v rfl
 refine⟨.bool,?_⟩
 show _
 conv=>whnf
 refine callV_pure hcp ⟨.fr rfl,trivial⟩ ?_
 conv=>whnf
 refine callV_of (fn:=Go.Proofs.Tryz.f39) (body:=_) tab_ok mixed rfl rfl (by decide) (by simp[Go.Proofs.Tryz.f39]) ?_
 conv=>whnf
 refine eqlPe r.peer noPe ?_
 conv=>whnf
 refine⟨_,_,_,Ends.here,?_⟩
 conv=>whnf
 intro _
 conv=>whnf
 refine vcg_loop tab_ok mixed (fun q:{q:Nat × Attrs // q.1≤7∧sayK s pe pol r q.1=some q.2}=>⟨[(3,.ptr 1 0),(4,.ptr 2 0),(6,.ptr 3 0),(17,.osl 8 1 0 7),(18,.int .i64 7),(19,cI q.1.1)],[(0,varOut s pe pol m),(1,some (.var true 37 (cellsRt false r))),(2,some (.var true 35 zeroC)),(3,some (.var true 35 (cellsA true q.1.2))),(4,some (.var true 41 [.ptr 0 0])),(5,some (.var true 37 (cellsRt false r))),(6,some (.var true 103 [.ptr 3 0])),(7,some (.var true 4 [.bool (ownR r)])),(8,some (.arr true true 40 1 rowsF))],9⟩) (fun q=>7 - q.1.1) ⟨(0,r.attrs),by omega,rfl⟩ (Wk.i (by repeat' (first|exact LHa|exact⟨id,id,rfl,rfl,LeR.out (rowsF_le (by omega))⟩|exact LeL.freeV (cellsOut_free s pe pol m)|exact LeL.freeV (cellsRt_free false r)|exact .A|exact LeL.fr rfl|exact LHb|refine Or.inl ⟨by simp,_,rfl,?_⟩|exact Or.inr ⟨by simp,_,_,_,_,rfl⟩|refine⟨rfl,rfl,rfl,rfl,rfl,rfl,?_⟩|refine⟨?_,?_⟩)) (by omega)) (fun q=>?_)
 obtain⟨⟨k,a⟩,hk,hq⟩:=q
 have hk:k≤7:=hk
 have hq:sayK s pe pol r k=some a:=hq
 have hk':k=0∨k=1∨k=2∨k=3∨k=4∨k=5∨k=6∨k=7:=by omega
 rcases hk' with rfl|rfl|rfl|rfl|rfl|rfl|rfl|rfl
 ·skip
  conv=>whnf
  refine⟨rfl,⟨by simp,by simp⟩,?_⟩
  conv=>whnf
  refine⟨rfl,_,rfl,?_⟩
  conv=>whnf
  refine callV_of (fn:=Go.Proofs.Tryz.f72) (body:=_) tab_ok mixed rfl rfl (by decide) (by simp[Go.Proofs.Tryz.f72]) ?_
  conv=>whnf
  refine callV_pure (oright_ok false r) ⟨.fr rfl,trivial⟩ ?_
  conv=>whnf
  refine⟨_,_,_,Ends.here,?_⟩
  conv=>whnf
  cases hc:prefOk r.pfx && rightA r.attrs with
  | true=>
   conv=>whnf
   exact⟨⟨(1,a),by simp only;omega,by show(sayK s pe pol r (1 - 1)).bind _=_;rw[hq];(simp only[Option.bind_some,stepS,hc,if_true])⟩,(Wk.i (by repeat' (first|exact LHa|exact⟨id,id,rfl,rfl,LeR.out (rowsF_le (by omega))⟩|exact LeL.freeV (cellsOut_free s pe pol m)|exact LeL.freeV (cellsRt_free false r)|exact .A|exact LeL.fr rfl|exact LHb|refine Or.inl ⟨by simp,_,rfl,?_⟩|exact Or.inr ⟨by simp,_,_,_,_,rfl⟩|refine⟨rfl,rfl,rfl,rfl,rfl,rfl,?_⟩|refine⟨?_,?_⟩)) (by omega)),by simp only;omega⟩
  | false=>
   have hn:sayO s pe pol r=none:=sayK_none (n:=6) (k:=1) (by show(sayK s pe pol r (1 - 1)).bind _=_;rw[hq];(simp[stepS,hc]))
   conv=>whnf
   exact⟨.tup [encA true noA,.bool false],[(0,varOut s pe pol m)],1,(Ends.all id [] (by repeat' (first|exact LHa|exact LeL.freeV (cellsOut_free s pe pol m)|exact .tupL ⟨.noA,.fr rfl,trivial⟩|exact .A|exact LeL.fr rfl|exact LHb|refine Or.inl ⟨by simp,_,rfl,?_⟩|exact Or.inr ⟨by simp,_,_,_,_,rfl⟩|refine⟨rfl,rfl,rfl,rfl,rfl,rfl,?_⟩|refine⟨?_,?_⟩)) (fun _ _ _ _ h=>h) (fun _ _=>rfl) (by omega) (by simp)),(by rw[hn];rfl),rfl,rfl⟩
 ·skip
  conv=>whnf
  refine⟨rfl,⟨by simp,by simp⟩,?_⟩
  conv=>whnf
  refine⟨rfl,_,rfl,?_⟩
  conv=>whnf
  refine callV_of (fn:=Go.Proofs.Tryz.f73) (body:=_) tab_ok mixed rfl rfl (by decide) (by simp[Go.Proofs.Tryz.f73]) ?_
  conv=>whnf
  rw[bneW]
  cases h1:decide (r.peer.sys=pe.sys)with
  | false=>
   conv=>whnf
   refine⟨by kernel_rfl,?_⟩
   conv=>whnf
   refine⟨_,_,_,Ends.here,?_⟩
   conv=>whnf
   exact⟨⟨(2,a),by simp only;omega,by show(sayK s pe pol r (2 - 1)).bind _=_;rw[hq];(simp[stepS,h1])⟩,(Wk.i (by repeat' (first|exact LHa|exact⟨id,id,rfl,rfl,LeR.out (rowsF_le (by omega))⟩|exact LeL.freeV (cellsOut_free s pe pol m)|exact LeL.freeV (cellsRt_free false r)|exact .A|exact LeL.fr rfl|exact LHb|refine Or.inl ⟨by simp,_,rfl,?_⟩|exact Or.inr ⟨by simp,_,_,_,_,rfl⟩|refine⟨rfl,rfl,rfl,rfl,rfl,rfl,?_⟩|refine⟨?_,?_⟩)) (by omega)),by simp only;omega⟩
  | true=>
  conv=>whnf
  rw[bneW]
  cases h2:decide (r.peer.id=pe.id)with
  | false=>
   conv=>whnf
   refine⟨by kernel_rfl,?_⟩
   conv=>whnf
   refine⟨_,_,_,Ends.here,?_⟩
   conv=>whnf
   exact⟨⟨(2,a),by simp only;omega,by show(sayK s pe pol r (2 - 1)).bind _=_;rw[hq];(simp[stepS,h2])⟩,(Wk.i (by repeat' (first|exact LHa|exact⟨id,id,rfl,rfl,LeR.out (rowsF_le (by omega))⟩|exact LeL.freeV (cellsOut_free s pe pol m)|exact LeL.freeV (cellsRt_free false r)|exact .A|exact LeL.fr rfl|exact LHb|refine Or.inl ⟨by simp,_,rfl,?_⟩|exact Or.inr ⟨by simp,_,_,_,_,rfl⟩|refine⟨rfl,rfl,rfl,rfl,rfl,rfl,?_⟩|refine⟨?_,?_⟩)) (by omega)),by simp only;omega⟩
  | true=>
  conv=>whnf
  rw[bneW]
  cases h3:decide (r.peer.addr=pe.addr)with
  | false=>
   conv=>whnf
   refine⟨by kernel_rfl,?_⟩
   conv=>whnf
   refine⟨_,_,_,Ends.here,?_⟩
   conv=>whnf
   exact⟨⟨(2,a),by simp only;omega,by show(sayK s pe pol r (2 - 1)).bind _=_;rw[hq];(simp[stepS,h3])⟩,(Wk.i (by repeat' (first|exact LHa|exact⟨id,id,rfl,rfl,LeR.out (rowsF_le (by omega))⟩|exact LeL.freeV (cellsOut_free s pe pol m)|exact LeL.freeV (cellsRt_free false r)|exact .A|exact LeL.fr rfl|exact LHb|refine Or.inl ⟨by simp,_,rfl,?_⟩|exact Or.inr ⟨by simp,_,_,_,_,rfl⟩|refine⟨rfl,rfl,rfl,rfl,rfl,rfl,?_⟩|refine⟨?_,?_⟩)) (by omega)),by simp only;omega⟩
  | true=>
  conv=>whnf
  refine⟨by kernel_rfl,?_⟩
  conv=>whnf
  refine⟨_,_,_,Ends.here,?_⟩
  conv=>whnf
  have hn:sayO s pe pol r=none:=sayK_none (n:=5) (k:=2) (by show(sayK s pe pol r (2 - 1)).bind _=_;rw[hq];(simp only[Option.bind_some,stepS,h1,h2,h3];rfl))
  conv=>whnf
  exact⟨.tup [encA true noA,.bool false],[(0,varOut s pe pol m)],1,(Ends.all id [] (by repeat' (first|exact LHa|exact LeL.freeV (cellsOut_free s pe pol m)|exact .tupL ⟨.noA,.fr rfl,trivial⟩|exact .A|exact LeL.fr rfl|exact LHb|refine Or.inl ⟨by simp,_,rfl,?_⟩|exact Or.inr ⟨by simp,_,_,_,_,rfl⟩|refine⟨rfl,rfl,rfl,rfl,rfl,rfl,?_⟩|refine⟨?_,?_⟩)) (fun _ _ _ _ h=>h) (fun _ _=>rfl) (by omega) (by simp)),(by rw[hn];rfl),rfl,rfl⟩
 ·skip
  conv=>whnf
  refine⟨rfl,⟨by simp,by simp⟩,?_⟩
  conv=>whnf
  refine⟨rfl,_,rfl,?_⟩
  conv=>whnf
  refine callV_of (fn:=Go.Proofs.Tryz.f74) (body:=_) tab_ok mixed rfl rfl (by decide) (by simp[Go.Proofs.Tryz.f74]) ?_
  conv=>whnf
  cases h1:ownR r with
  | true=>
   conv=>whnf
   refine⟨_,_,_,Ends.here,?_⟩
   conv=>whnf
   exact⟨⟨(3,a),by simp only;omega,by show(sayK s pe pol r (3 - 1)).bind _=_;rw[hq];(simp[stepS,h1])⟩,(Wk.i (by repeat' (first|exact LHa|exact⟨id,id,rfl,rfl,LeR.out (rowsF_le (by omega))⟩|exact LeL.freeV (cellsOut_free s pe pol m)|exact LeL.freeV (cellsRt_free false r)|exact .A|exact LeL.fr rfl|exact LHb|refine Or.inl ⟨by simp,_,rfl,?_⟩|exact Or.inr ⟨by simp,_,_,_,_,rfl⟩|refine⟨rfl,rfl,rfl,rfl,rfl,rfl,?_⟩|refine⟨?_,?_⟩)) (by omega)),by simp only;omega⟩
  | false=>
  conv=>whnf
  cases h2:pe.inner with
  | false=>
   conv=>whnf
   refine⟨_,_,_,Ends.here,?_⟩
   conv=>whnf
   exact⟨⟨(3,a),by simp only;omega,by show(sayK s pe pol r (3 - 1)).bind _=_;rw[hq];(simp[stepS,h2])⟩,(Wk.i (by repeat' (first|exact LHa|exact⟨id,id,rfl,rfl,LeR.out (rowsF_le (by omega))⟩|exact LeL.freeV (cellsOut_free s pe pol m)|exact LeL.freeV (cellsRt_free false r)|exact .A|exact LeL.fr rfl|exact LHb|refine Or.inl ⟨by simp,_,rfl,?_⟩|exact Or.inr ⟨by simp,_,_,_,_,rfl⟩|refine⟨rfl,rfl,rfl,rfl,rfl,rfl,?_⟩|refine⟨?_,?_⟩)) (by omega)),by simp only;omega⟩
  | true=>
  conv=>whnf
  cases h3:r.peer.inner with
  | false=>
   conv=>whnf
   refine⟨_,_,_,Ends.here,?_⟩
   conv=>whnf
   exact⟨⟨(3,a),by simp only;omega,by show(sayK s pe pol r (3 - 1)).bind _=_;rw[hq];(simp[stepS,h3])⟩,(Wk.i (by repeat' (first|exact LHa|exact⟨id,id,rfl,rfl,LeR.out (rowsF_le (by omega))⟩|exact LeL.freeV (cellsOut_free s pe pol m)|exact LeL.freeV (cellsRt_free false r)|exact .A|exact LeL.fr rfl|exact LHb|refine Or.inl ⟨by simp,_,rfl,?_⟩|exact Or.inr ⟨by simp,_,_,_,_,rfl⟩|refine⟨rfl,rfl,rfl,rfl,rfl,rfl,?_⟩|refine⟨?_,?_⟩)) (by omega)),by simp only;omega⟩
  | true=>
  conv=>whnf
  refine⟨_,_,_,Ends.here,?_⟩
  conv=>whnf
  have hn:sayO s pe pol r=none:=sayK_none (n:=4) (k:=3) (by show(sayK s pe pol r (3 - 1)).bind _=_;rw[hq];(simp only[Option.bind_some,stepS,h1,h2,h3];rfl))
  conv=>whnf
  exact⟨.tup [encA true noA,.bool false],[(0,varOut s pe pol m)],1,(Ends.all id [] (by repeat' (first|exact LHa|exact LeL.freeV (cellsOut_free s pe pol m)|exact .tupL ⟨.noA,.fr rfl,trivial⟩|exact .A|exact LeL.fr rfl|exact LHb|refine Or.inl ⟨by simp,_,rfl,?_⟩|exact Or.inr ⟨by simp,_,_,_,_,rfl⟩|refine⟨rfl,rfl,rfl,rfl,rfl,rfl,?_⟩|refine⟨?_,?_⟩)) (fun _ _ _ _ h=>h) (fun _ _=>rfl) (by omega) (by simp)),(by rw[hn];rfl),rfl,rfl⟩
 ·skip
  conv=>whnf
  refine⟨rfl,⟨by simp,by simp⟩,?_⟩
  conv=>whnf
  refine⟨rfl,_,rfl,?_⟩
  conv=>whnf
  refine callV_of (fn:=Go.Proofs.Tryz.f75) (body:=_) tab_ok mixed rfl rfl (by decide) (by simp[Go.Proofs.Tryz.f75]) ?_
  conv=>whnf
  cases hi:pe.inner with
  | true=>
   conv=>whnf
   cases hp:a.hasPref with
   | true=>
    conv=>whnf
    refine⟨_,_,_,Ends.here,?_⟩
    conv=>whnf
    exact⟨⟨(4,a),by simp only;omega,by show(sayK s pe pol r (4 - 1)).bind _=_;rw[hq];(simp[stepS,sayM,hi,hp])⟩,(Wk.i (by repeat' (first|exact LHa|exact⟨id,id,rfl,rfl,LeR.out (rowsF_le (by omega))⟩|exact LeL.freeV (cellsOut_free s pe pol m)|exact LeL.freeV (cellsRt_free false r)|exact .A|exact LeL.fr rfl|exact LHb|refine Or.inl ⟨by simp,_,rfl,?_⟩|exact Or.inr ⟨by simp,_,_,_,_,rfl⟩|refine⟨rfl,rfl,rfl,rfl,rfl,rfl,?_⟩|refine⟨?_,?_⟩)) (by omega)),by simp only;omega⟩
   | false=>
    conv=>whnf
    refine⟨by kernel_rfl,?_⟩
    conv=>whnf
    refine⟨_,_,_,Ends.here,?_⟩
    conv=>whnf
    exact⟨⟨(4,{ a with hasPref:=true,pref:=100 }),by simp only;omega,by show(sayK s pe pol r (4 - 1)).bind _=_;rw[hq];(simp[stepS,sayM,hi,hp])⟩,(Wk.i (by repeat' (first|exact LHa|exact⟨id,id,rfl,rfl,LeR.out (rowsF_le (by omega))⟩|exact LeL.freeV (cellsOut_free s pe pol m)|exact LeL.freeV (cellsRt_free false r)|exact .A|exact LeL.fr rfl|exact LHb|refine Or.inl ⟨by simp,_,rfl,?_⟩|exact Or.inr ⟨by simp,_,_,_,_,rfl⟩|refine⟨rfl,rfl,rfl,rfl,rfl,rfl,?_⟩|refine⟨?_,?_⟩)) (by omega)),by simp only;omega⟩
  | false=>
  conv=>whnf
  refine⟨by kernel_rfl,?_⟩
  conv=>whnf
  cases hm:a.hasMed with
  | false=>
   conv=>whnf
   refine⟨by kernel_rfl,?_⟩
   conv=>whnf
   refine⟨_,_,_,Ends.here,?_⟩
   conv=>whnf
   exact⟨⟨(4,{ a with hasPref:=false,pref:=0,hasMed:=false,med:=0 }),by simp only;omega,by show(sayK s pe pol r (4 - 1)).bind _=_;rw[hq];(simp[stepS,sayM,hi,hm])⟩,(Wk.i (by repeat' (first|exact LHa|exact⟨id,id,rfl,rfl,LeR.out (rowsF_le (by omega))⟩|exact LeL.freeV (cellsOut_free s pe pol m)|exact LeL.freeV (cellsRt_free false r)|exact .A|exact LeL.fr rfl|exact LHb|refine Or.inl ⟨by simp,_,rfl,?_⟩|exact Or.inr ⟨by simp,_,_,_,_,rfl⟩|refine⟨rfl,rfl,rfl,rfl,rfl,rfl,?_⟩|refine⟨?_,?_⟩)) (by omega)),by simp only;omega⟩
  | true=>
  conv=>whnf
  cases ho:ownR r with
  | false=>
   conv=>whnf
   refine⟨by kernel_rfl,?_⟩
   conv=>whnf
   refine⟨_,_,_,Ends.here,?_⟩
   conv=>whnf
   exact⟨⟨(4,{ a with hasPref:=false,pref:=0,hasMed:=false,med:=0 }),by simp only;omega,by show(sayK s pe pol r (4 - 1)).bind _=_;rw[hq];(simp[stepS,sayM,hi,hm,ho])⟩,(Wk.i (by repeat' (first|exact LHa|exact⟨id,id,rfl,rfl,LeR.out (rowsF_le (by omega))⟩|exact LeL.freeV (cellsOut_free s pe pol m)|exact LeL.freeV (cellsRt_free false r)|exact .A|exact LeL.fr rfl|exact LHb|refine Or.inl ⟨by simp,_,rfl,?_⟩|exact Or.inr ⟨by simp,_,_,_,_,rfl⟩|refine⟨rfl,rfl,rfl,rfl,rfl,rfl,?_⟩|refine⟨?_,?_⟩)) (by omega)),by simp only;omega⟩
  | true=>
  conv=>whnf
  refine⟨by kernel_rfl,?_⟩
  conv=>whnf
  refine⟨_,_,_,Ends.here,?_⟩
  conv=>whnf
  exact⟨⟨(4,{ a with hasPref:=false,pref:=0,hasMed:=true }),by simp only;omega,by show(sayK s pe pol r (4 - 1)).bind _=_;rw[hq];(simp[stepS,sayM,hi,hm,ho])⟩,(Wk.i (by repeat' (first|exact LHa|exact⟨id,id,rfl,rfl,LeR.out (rowsF_le (by omega))⟩|exact LeL.freeV (cellsOut_free s pe pol m)|exact LeL.freeV (cellsRt_free false r)|exact .A|exact LeL.fr rfl|exact LHb|refine Or.inl ⟨by simp,_,rfl,?_⟩|exact Or.inr ⟨by simp,_,_,_,_,rfl⟩|refine⟨rfl,rfl,rfl,rfl,rfl,rfl,?_⟩|refine⟨?_,?_⟩)) (by omega)),by simp only;omega⟩
 ·skip
  conv=>whnf
  refine⟨rfl,⟨by simp,by simp⟩,?_⟩
  conv=>whnf
  refine⟨rfl,_,rfl,?_⟩
  conv=>whnf
  have hby:=by_ok false true pol s.sys r.pfx a
  rw[byV_R]at hby
  refine callV_of (fn:=Go.Proofs.Tryz.f76) (body:=_) tab_ok mixed rfl rfl (by decide) (by simp[Go.Proofs.Tryz.f76]) ?_
  conv=>whnf
  refine⟨_,[],fun h nx _=>pureV_pure hby ⟨.fr rfl,.fr rfl,.fr rfl,.fr rfl,trivial⟩,by simp,?_⟩
  conv=>whnf
  refine⟨by kernel_rfl,?_⟩
  conv=>whnf
  refine⟨_,_,_,Ends.here,?_⟩
  conv=>whnf
  cases hc:(byR pol s.sys r.pfx a).2 with
  | true=>
   conv=>whnf
   exact⟨⟨(5,(byR pol s.sys r.pfx a).1),by simp only;omega,by show(sayK s pe pol r (5 - 1)).bind _=_;rw[hq];(simp[stepS,hc])⟩,(Wk.i (by repeat' (first|exact LHa|exact⟨id,id,rfl,rfl,LeR.out (rowsF_le (by omega))⟩|exact LeL.freeV (cellsOut_free s pe pol m)|exact LeL.freeV (cellsRt_free false r)|exact .A|exact LeL.fr rfl|exact LHb|refine Or.inl ⟨by simp,_,rfl,?_⟩|exact Or.inr ⟨by simp,_,_,_,_,rfl⟩|refine⟨rfl,rfl,rfl,rfl,rfl,rfl,?_⟩|refine⟨?_,?_⟩)) (by omega)),by simp only;omega⟩
  | false=>
  have hn:sayO s pe pol r=none:=sayK_none (n:=2) (k:=5) (by show(sayK s pe pol r (5 - 1)).bind _=_;rw[hq];(simp[stepS,hc]))
  conv=>whnf
  exact⟨.tup [encA true noA,.bool false],[(0,varOut s pe pol m)],1,(Ends.all id [] (by repeat' (first|exact LHa|exact LeL.freeV (cellsOut_free s pe pol m)|exact .tupL ⟨.noA,.fr rfl,trivial⟩|exact .A|exact LeL.fr rfl|exact LHb|refine Or.inl ⟨by simp,_,rfl,?_⟩|exact Or.inr ⟨by simp,_,_,_,_,rfl⟩|refine⟨rfl,rfl,rfl,rfl,rfl,rfl,?_⟩|refine⟨?_,?_⟩)) (fun _ _ _ _ h=>h) (fun _ _=>rfl) (by omega) (by simp)),(by rw[hn];rfl),rfl,rfl⟩
 ·skip
  conv=>whnf
  refine⟨rfl,⟨by simp,by simp⟩,?_⟩
  conv=>whnf
  refine⟨rfl,_,rfl,?_⟩
  conv=>whnf
  have hpp:=prepend_ok true a s.sys 1
  refine callV_of (fn:=Go.Proofs.Tryz.f78) (body:=_) tab_ok mixed rfl rfl (by decide) (by simp[Go.Proofs.Tryz.f78]) ?_
  conv=>whnf
  cases hi:pe.inner with
  | true=>
   conv=>whnf
   refine⟨_,_,_,Ends.here,?_⟩
   conv=>whnf
   exact⟨⟨(6,a),by simp only;omega,by show(sayK s pe pol r (6 - 1)).bind _=_;rw[hq];(simp[stepS,hi])⟩,(Wk.i (by repeat' (first|exact LHa|exact⟨id,id,rfl,rfl,LeR.out (rowsF_le (by omega))⟩|exact LeL.freeV (cellsOut_free s pe pol m)|exact LeL.freeV (cellsRt_free false r)|exact .A|exact LeL.fr rfl|exact LHb|refine Or.inl ⟨by simp,_,rfl,?_⟩|exact Or.inr ⟨by simp,_,_,_,_,rfl⟩|refine⟨rfl,rfl,rfl,rfl,rfl,rfl,?_⟩|refine⟨?_,?_⟩)) (by omega)),by simp only;omega⟩
  | false=>
  conv=>whnf
  refine⟨_,[],fun h nx _=>pureV_pure hpp ⟨.fr rfl,.fr rfl,.fr rfl,trivial⟩,by simp,?_⟩
  conv=>whnf
  refine⟨by kernel_rfl,?_⟩
  conv=>whnf
  refine⟨_,_,_,Ends.here,?_⟩
  conv=>whnf
  by_cases hc:prepE a s.sys 1=0
  ·rw[show(prepE a s.sys 1 == 0)=true by simp[hc]]
   conv=>whnf
   exact⟨⟨(6,{ prepA a s.sys 1 with next:=s.addr }),by simp only;omega,by show(sayK s pe pol r (6 - 1)).bind _=_;rw[hq];(simp[stepS,hi,hc])⟩,(Wk.i (by repeat' (first|exact LHa|exact⟨id,id,rfl,rfl,LeR.out (rowsF_le (by omega))⟩|exact LeL.freeV (cellsOut_free s pe pol m)|exact LeL.freeV (cellsRt_free false r)|exact .A|exact LeL.fr rfl|exact LHb|refine Or.inl ⟨by simp,_,rfl,?_⟩|exact Or.inr ⟨by simp,_,_,_,_,rfl⟩|refine⟨rfl,rfl,rfl,rfl,rfl,rfl,?_⟩|refine⟨?_,?_⟩)) (by omega)),by simp only;omega⟩
  rw[show(prepE a s.sys 1 == 0)=false by simp[hc]]
  have hn:sayO s pe pol r=none:=sayK_none (n:=1) (k:=6) (by show(sayK s pe pol r (6 - 1)).bind _=_;rw[hq];(simp[stepS,hi,hc]))
  conv=>whnf
  exact⟨.tup [encA true noA,.bool false],[(0,varOut s pe pol m)],1,(Ends.all id [] (by repeat' (first|exact LHa|exact LeL.freeV (cellsOut_free s pe pol m)|exact .tupL ⟨.noA,.fr rfl,trivial⟩|exact .A|exact LeL.fr rfl|exact LHb|refine Or.inl ⟨by simp,_,rfl,?_⟩|exact Or.inr ⟨by simp,_,_,_,_,rfl⟩|refine⟨rfl,rfl,rfl,rfl,rfl,rfl,?_⟩|refine⟨?_,?_⟩)) (fun _ _ _ _ h=>h) (fun _ _=>rfl) (by omega) (by simp)),(by rw[hn];rfl),rfl,rfl⟩
 ·skip
  conv=>whnf
  refine⟨rfl,⟨by simp,by simp⟩,?_⟩
  conv=>whnf
  refine⟨rfl,_,rfl,?_⟩
  conv=>whnf
  have hck:=ucheck_ok false ⟨[],[r.pfx],a⟩ ⟨by simp,by simp,sayK_few hq⟩
  refine callV_of (fn:=Go.Proofs.Tryz.f80) (body:=_) tab_ok mixed rfl rfl (by decide) (by simp[Go.Proofs.Tryz.f80]) ?_
  conv=>whnf
  refine⟨.int .i64 (checkU ⟨[],[r.pfx],a⟩),[(9,some (.arr true true 31 2 (rowsP [r.pfx])))],fun h nx hrd=>?_,by intro b ob hb;simp at hb;obtain⟨rfl,rfl⟩:=hb;rfl,?_⟩
  ·have h9:hget h 9=some (.arr true true 31 2 (rowsP [r.pfx])):=hrd _ _ (by simp)
   exact pureV_lend [9] hck ⟨.aggL ⟨.snil_sl,.fresh_off (LeV.freezeR (by simp) h9 (by simp) (.free (rowsP_free [r.pfx]))),cellsA_off⟩,trivial⟩ (by intro v hv;simp at hv;subst hv;exact encU_cld _) (one_none h9) .int
  conv=>whnf
  refine⟨by kernel_rfl,?_⟩
  conv=>whnf
  refine⟨_,_,_,Ends.here,?_⟩
  conv=>whnf
  by_cases hc:checkU ⟨[],[r.pfx],a⟩=0
  ·rw[show(checkU ⟨[],[r.pfx],a⟩ == 0)=true by simp[hc]]
   conv=>whnf
   exact⟨⟨(7,a),by simp only;omega,by show(sayK s pe pol r (7 - 1)).bind _=_;rw[hq];(simp[stepS,hc])⟩,(Wk.i (by repeat' (first|exact LHa|exact⟨id,id,rfl,rfl,LeR.out (rowsF_le (by omega))⟩|exact LeL.freeV (cellsOut_free s pe pol m)|exact LeL.freeV (cellsRt_free false r)|exact .A|exact LeL.fr rfl|exact LHb|refine Or.inl ⟨by simp,_,rfl,?_⟩|exact Or.inr ⟨by simp,_,_,_,_,rfl⟩|refine⟨rfl,rfl,rfl,rfl,rfl,rfl,?_⟩|refine⟨?_,?_⟩)) (by omega)),by simp only;omega⟩
  rw[show(checkU ⟨[],[r.pfx],a⟩ == 0)=false by simp[hc]]
  have hn:sayO s pe pol r=none:=sayK_none (n:=0) (k:=7) (by show(sayK s pe pol r (7 - 1)).bind _=_;rw[hq];(simp[stepS,hc]))
  conv=>whnf
  exact⟨.tup [encA true noA,.bool false],[(0,varOut s pe pol m)],1,(Ends.all id [] (by repeat' (first|exact LHa|exact LeL.freeV (cellsOut_free s pe pol m)|exact .tupL ⟨.noA,.fr rfl,trivial⟩|exact .A|exact LeL.fr rfl|exact LHb|refine Or.inl ⟨by simp,_,rfl,?_⟩|exact Or.inr ⟨by simp,_,_,_,_,rfl⟩|refine⟨rfl,rfl,rfl,rfl,rfl,rfl,?_⟩|refine⟨?_,?_⟩)) (fun _ _ _ _ h=>h) (fun _ _=>rfl) (by omega) (by simp)),(by rw[hn];rfl),rfl,rfl⟩
 ·conv=>whnf
  exact⟨.tup [encA true a,.bool true],[(0,varOut s pe pol m)],1,(Ends.all id [] (by repeat' (first|exact LHa|exact LeL.freeV (cellsOut_free s pe pol m)|exact .tupL ⟨.fr rfl,.fr rfl,trivial⟩|exact .A|exact LeL.fr rfl|exact LHb|refine Or.inl ⟨by simp,_,rfl,?_⟩|exact Or.inr ⟨by simp,_,_,_,_,rfl⟩|refine⟨rfl,rfl,rfl,rfl,rfl,rfl,?_⟩|refine⟨?_,?_⟩)) (fun _ _ _ _ h=>h) (fun _ _=>rfl) (by omega) (by simp)),(by rw[show sayO s pe pol r=some a from hq];rfl),rfl,rfl⟩
end
def goS (out:List (List Prefix)) (p:Prefix):List (List Prefix):=
 if 0 < out.length∧checkU ⟨out.getD (out.length - 1) []++ [p],[],noA⟩=0 then out.set (out.length - 1) (out.getD (out.length - 1) []++ [p])else out ++ [[p]]
def goU (l:List Prefix):List (List Prefix):=l.foldl goS []
def goneU (l:List (List Prefix)):List Upd:=l.map fun g=>⟨g,[],noA⟩
def comF (p:Prefix) (a:Attrs) (x:List Prefix × Attrs):Bool:=decide (x.2=a)&& decide (checkU ⟨[],x.1 ++ [p],a⟩=0)
def noX:List Prefix × Attrs:=([],noA)
def comS (out:List (List Prefix × Attrs)) (e:Prefix × Attrs):List (List Prefix × Attrs):=
 if out.findIdx (comF e.1 e.2) < out.length then out.set (out.findIdx (comF e.1 e.2)) ((out.getD (out.findIdx (comF e.1 e.2)) noX).1 ++ [e.1],e.2)else out ++ [([e.1],e.2)]
def comU (l:List (Prefix × Attrs)):List (List Prefix × Attrs):=l.foldl comS []
def newU (l:List (List Prefix × Attrs)):List Upd:=l.map fun x=>⟨[],x.1,x.2⟩
def goK (was now:List (Prefix × Attrs)):List Prefix:=(keysE was).filter fun p=>!decide (p∈keysE now)
def comK (was now:List (Prefix × Attrs)):List (Prefix × Attrs):=now.filter fun e=>!decide (getE was e.1=some e.2)
def updO (was now:List (Prefix × Attrs)):List Upd:=goneU (goU (goK was now))++ newU (comU (comK was now))
theorem prefsB_ge:∀l:List Prefix,l.length≤(prefsB l).length
 | []=>by simp[prefsB]
 | p :: l=>by
  have h1:=prefsB_ge l
  have h2:=(prefB_len p).1
  have e:prefsB (p :: l)=prefB p ++ prefsB l:=rfl
  rw[e,List.length_append,List.length_cons]
  omega
theorem check_lens {u:Upd} (h:checkU u=0):u.gone.length≤493∧u.new.length≤493:=by
 obtain⟨_,hl⟩:=checkU_zero h
 rw[bodyB_parts]at hl
 have h1:=prefsB_ge u.gone
 have h2:=prefsB_ge u.new
 omega
theorem check_right {p:Prefix} {a:Attrs} (h:checkU ⟨[],[p],a⟩=0):rightA a=true:=by
 obtain⟨hm,_⟩:=checkU_zero h
 have h4:=(mayU_out hm).2.2.2
 exact saidU_some (u:=⟨[],[p],a⟩) (List.cons_ne_nil p []) h4
structure GoI (n:Nat) (out:List (List Prefix)):Prop where
 len:out.length≤n
 few:∀g∈out,g.length≤500
theorem GoI.nil:GoI 0 []:=⟨by simp,by simp⟩
theorem GoI.more {n m:Nat} {out:List (List Prefix)} (h:GoI n out) (hm:n≤m):GoI m out:=⟨by have:=h.len;omega,h.few⟩
theorem GoI.step {n:Nat} {out:List (List Prefix)} (h:GoI n out) (p:Prefix):GoI (n + 1) (goS out p):=by
 unfold goS
 split
 ·rename_i hc
  have hl:=(check_lens hc.2).1
  refine⟨by have:=h.len;simp;omega,fun g hg=>?_⟩
  rcases List.mem_or_eq_of_mem_set hg with hg|rfl
  ·exact h.few g hg
  ·simp only at hl;omega
 ·refine⟨by have:=h.len;simp;omega,fun g hg=>?_⟩
  rcases List.mem_append.1 hg with hg|hg
  ·exact h.few g hg
  ·simp at hg;subst hg;simp
structure ComI (n:Nat) (out:List (List Prefix × Attrs)):Prop where
 len:out.length≤n
 few:∀x∈out,x.1.length≤500
 right:∀x∈out,rightA x.2=true
theorem ComI.nil:ComI 0 []:=⟨by simp,by simp,by simp⟩
theorem ComI.more {n m:Nat} {out:List (List Prefix × Attrs)} (h:ComI n out) (hm:n≤m):ComI m out:=⟨by have:=h.len;omega,h.few,h.right⟩
theorem com_at {out:List (List Prefix × Attrs)} {e:Prefix × Attrs} (h:out.findIdx (comF e.1 e.2) < out.length):out[out.findIdx (comF e.1 e.2)].2=e.2∧checkU ⟨[],out[out.findIdx (comF e.1 e.2)].1 ++ [e.1],e.2⟩=0:=by
 have:=List.findIdx_getElem (p:=comF e.1 e.2) (w:=h)
 simpa[comF]using this
theorem ComI.step {n:Nat} {out:List (List Prefix × Attrs)} (h:ComI n out) {e:Prefix × Attrs} (he:rightA e.2=true):ComI (n + 1) (comS out e):=by
 unfold comS
 split
 ·rename_i hc
  have hk:=com_at hc
  have hl:=(check_lens hk.2).2
  have hgd:(out.getD (out.findIdx (comF e.1 e.2)) noX)=out[out.findIdx (comF e.1 e.2)]:=by simp[List.getD,hc]
  refine⟨by have:=h.len;simp;omega,fun x hx=>?_,fun x hx=>?_⟩
  ·rcases List.mem_or_eq_of_mem_set hx with hx|rfl
   ·exact h.few x hx
   ·simp only at hl ⊢;rw[hgd];omega
  ·rcases List.mem_or_eq_of_mem_set hx with hx|rfl
   ·exact h.right x hx
   ·exact he
 ·refine⟨by have:=h.len;simp;omega,fun x hx=>?_,fun x hx=>?_⟩
  ·rcases List.mem_append.1 hx with hx|hx
   ·exact h.few x hx
   ·simp at hx;subst hx;simp
  ·rcases List.mem_append.1 hx with hx|hx
   ·exact h.right x hx
   ·simp at hx;subst hx;exact he
theorem goU_I (l:List Prefix):GoI l.length (goU l):=by
 have key:∀(l:List Prefix) (n:Nat) (out:List (List Prefix)),GoI n out→GoI (n + l.length) (l.foldl goS out):=by
  intro l
  induction l with
  | nil=>exact fun n out h=>h
  | cons p l ih=>
   intro n out h
   have:=ih (n + 1) _ (h.step p)
   rw[List.length_cons,List.foldl_cons]
   exact this.more (by omega)
 have:=key l 0 [] GoI.nil
 exact this.more (by omega)
theorem comU_I {l:List (Prefix × Attrs)} (hr:∀e∈l,rightA e.2=true):ComI l.length (comU l):=by
 have key:∀(l:List (Prefix × Attrs)) (n:Nat) (out:List (List Prefix × Attrs)),(∀e∈l,rightA e.2=true)→ComI n out→ComI (n + l.length) (l.foldl comS out):=by
  intro l
  induction l with
  | nil=>exact fun n out _ h=>h
  | cons p l ih=>
   intro n out hr h
   have:=ih (n + 1) _ (fun e he=>hr e (by simp[he])) (h.step (hr p (by simp)))
   rw[List.length_cons,List.foldl_cons]
   exact this.more (by omega)
 have:=key l 0 [] hr ComI.nil
 exact this.more (by omega)
def nowL (s:SelfL) (pe:Peer) (pol:Policy) (l:List Route):List (Prefix × Attrs):=l.filterMap fun r=>(sayO s pe pol r).map fun a=>(r.pfx,a)
def rightR (r:Route):Bool:=prefOk r.pfx && rightA r.attrs
def pfxs (l:List Route):List Prefix:=l.map fun r=>r.pfx
def okT (l:List Route):Bool:=l.all rightR && decide (pfxs l).Nodup
theorem sayO_right {s:SelfL} {pe:Peer} {pol:Policy} {r:Route} {a:Attrs} (h:sayO s pe pol r=some a):checkU ⟨[],[r.pfx],a⟩=0:=by
 have e:sayO s pe pol r=(sayK s pe pol r 6).bind fun a=>if checkU ⟨[],[r.pfx],a⟩=0 then some a else none:=rfl
 rw[e]at h
 cases hk:sayK s pe pol r 6 with
 | none=>rw[hk]at h;cases h
 | some b=>
  rw[hk]at h
  simp only[Option.bind_some]at h
  split at h
  ·cases h;assumption
  ·cases h
theorem nowL_right {s:SelfL} {pe:Peer} {pol:Policy} {l:List Route}:∀e∈nowL s pe pol l,checkU ⟨[],[e.1],e.2⟩=0:=by
 intro e he
 obtain⟨r,_,hr⟩:=List.mem_filterMap.1 he
 obtain⟨a,ha,rfl⟩:=Option.map_eq_some_iff.1 hr
 exact sayO_right ha
theorem nowL_keys {s:SelfL} {pe:Peer} {pol:Policy}:∀{l:List Route} {p:Prefix},p∈keysE (nowL s pe pol l)→p∈pfxs l:=by
 intro l p hp
 obtain⟨e,he,rfl⟩:=List.mem_map.1 hp
 obtain⟨r,h1,hr⟩:=List.mem_filterMap.1 he
 obtain⟨a,ha,rfl⟩:=Option.map_eq_some_iff.1 hr
 exact List.mem_map.2 ⟨r,h1,rfl⟩
theorem nowL_nod {s:SelfL} {pe:Peer} {pol:Policy}:∀{l:List Route},(pfxs l).Nodup→NodE (nowL s pe pol l)
 | [],_=>by simp[NodE,keysE,nowL]
 | r :: l,h=>by
  simp only[pfxs,List.map_cons,List.nodup_cons]at h
  have ih:=nowL_nod (s:=s) (pe:=pe) (pol:=pol) (l:=l) h.2
  unfold nowL at ih ⊢
  rw[List.filterMap_cons]
  cases ho:sayO s pe pol r with
  | none=>exact ih
  | some a=>
   simp only[Option.map_some,NodE,keysE,List.map_cons,List.nodup_cons]
   exact⟨fun hm=>h.1 (nowL_keys (l:=l) hm),ih⟩
theorem nowL_succ {s:SelfL} {pe:Peer} {pol:Policy} {l:List Route} {i:Nat} (h:i < l.length):nowL s pe pol (l.take (i + 1))=nowL s pe pol (l.take i)++ (match sayO s pe pol l[i]with|some a=>[(l[i].pfx,a)]|none=>[]):=by
 unfold nowL
 rw[List.take_succ_eq_append_getElem h,List.filterMap_append]
 congr 1
 cases ho:sayO s pe pol l[i]<;>simp[ho]
theorem nowL_len {s:SelfL} {pe:Peer} {pol:Policy} {l:List Route}:(nowL s pe pol l).length≤l.length:=List.length_filterMap_le _ _
theorem okT_out {l:List Route} (h:okT l=true):(∀r∈l,rightR r=true)∧(pfxs l).Nodup:=by
 simpa[okT]using h
theorem okT_bad {l:List Route} (h:okT l=false):∃(i:Nat) (hi:i < l.length),(∀r∈l.take i,rightR r=true)∧(pfxs (l.take i)).Nodup∧(rightR l[i]=false∨l[i].pfx∈pfxs (l.take i)):=by
 have key:∀n,n≤l.length→okT (l.take n)=false→∃(i:Nat) (hi:i < l.length),(∀r∈l.take i,rightR r=true)∧(pfxs (l.take i)).Nodup∧(rightR l[i]=false∨l[i].pfx∈pfxs (l.take i)):=by
  intro n
  induction n with
  | zero=>intro _ h;simp[okT,pfxs]at h
  | succ n ih=>
   intro hn h
   cases hk:okT (l.take n)with
   | false=>exact ih (by omega) hk
   | true=>
    obtain⟨h1,h2⟩:=okT_out hk
    refine⟨n,hn,h1,h2,?_⟩
    cases hr:rightR l[n]with
    | false=>exact .inl rfl
    | true=>
     right
     refine Classical.byContradiction fun hnm=>?_
     have:okT (l.take (n + 1))=true:=by
      rw[List.take_succ_eq_append_getElem hn]
      simp only[okT,Bool.and_eq_true,List.all_eq_true,decide_eq_true_eq]
      refine⟨fun r hm=>?_,?_⟩
      ·rcases List.mem_append.1 hm with hm|hm
       ·exact h1 r hm
       ·simp at hm;subst hm;exact hr
      ·simp only[pfxs,List.map_append,List.map_cons,List.map_nil]
       rw[List.nodup_append]
       refine⟨h2,by simp,?_⟩
       intro x hx y hy e
       simp at hy
       subst hy;subst e
       exact hnm hx
     rw[this]at h;cases h
 exact key l.length (Nat.le_refl _) (by rw[List.take_length];exact h)
section
open Go.Proofs.Tryz (prog)
attribute [local irreducible] CallV RoundV aggK
theorem sortedO_ok (m:List (Prefix × Attrs)) (hb:m.length≤1000):PCon prog 50 [.imap false (esA m)] (encPs true (sortPs (keysE m))):=by
 refine callV_of (fn:=Go.Proofs.Tryz.f50) (body:=_) tab_ok mixed rfl rfl (by decide) (by simp[Go.Proofs.Tryz.f50]) ?_
 conv=>whnf
 refine callV_of (fn:=Go.Proofs.Tryz.f96) (body:=_) tab_ok mixed rfl rfl (by decide) (by simp[Go.Proofs.Tryz.f96]) ?_
 conv=>whnf
 refine⟨_,_,_,Ends.here,?_⟩
 conv=>whnf
 refine callV_of (fn:=Go.Proofs.Tryz.f95) (body:=_) tab_ok mixed rfl rfl (by decide) (by simp[Go.Proofs.Tryz.f95]) ?_
 conv=>whnf
 refine callV_of (fn:=Go.Proofs.Tryz.f142) (body:=_) tab_ok mixed rfl rfl (by decide) (by simp[Go.Proofs.Tryz.f142]) ?_
 conv=>whnf
 refine callV_of (fn:=Go.Proofs.Tryz.f172) (body:=_) tab_ok mixed rfl rfl (by decide) (by simp[Go.Proofs.Tryz.f172]) ?_
 conv=>whnf
 refine callV_loop [(2,.ptr 1 0)] ⟨rfl,trivial⟩ fun asg' body' hasg hbody=>?_
 refine callV_of (fn:=Go.Proofs.Tryz.f144) (body:=_) tab_ok mixed rfl rfl (by decide) (by simp[Go.Proofs.Tryz.f144]) ?_
 conv=>whnf
 refine vcg_loop tab_ok mixed (fun p:{p:List Prefix × List (Prefix × Attrs) // (p.1 ++ keysE p.2).Perm (keysE m)}=>⟨[(0,.yld 2),(5,.ptr 3 0)],[(2,some (.loop 13 [(2,.ptr 1 0)] [7] asg' body' .ready none)),(1,some (.var true 84 [.osl 4 2 0 p.1.1.length])),(3,some (.iter none (esA p.1.2))),(4,some (.arr true false 31 2 (rowsP p.1.1)))],5⟩) (fun p=>p.1.2.length) ⟨([],m),by simp⟩ ?_ (fun p=>?_)
 ·refine Wk.of id [] ⟨.yld rfl (by omega),.ptr rfl (by omega),trivial⟩ (LeH.of ⟨⟨by omega,.inl ⟨by simp,_,rfl,rfl,rfl,rfl,rfl,rfl,rfl,.ptr rfl (by omega),trivial⟩⟩,⟨by omega,.inl ⟨by simp,_,rfl,id,rfl,.osl0,trivial⟩⟩,⟨by omega,.inl ⟨by simp,_,rfl,LeB.iter rfl (esA_free _)⟩⟩,⟨by omega,.inr ⟨by simp,_,_,_,_,rfl⟩⟩,trivial⟩ (fun _ _ _ _ h=>h) (fun _ _=>rfl) (by omega) (by simp))
 obtain⟨⟨xs,rest⟩,hp⟩:=p
 conv=>whnf
 refine⟨fun h0=>?_,fun k kv hk=>?_⟩
 ·have h0:rest=[]:=by simpa[esA]using h0
  subst h0
  rw[show keysE ([]:List (Prefix × Attrs))=[]from rfl,List.append_nil]at hp
  conv=>whnf
  refine⟨_,_,_,Ends.here,?_⟩
  conv=>whnf
  refine⟨_,_,_,Ends.here,?_⟩
  conv=>whnf
  refine⟨_,_,_,Ends.here,?_⟩
  conv=>whnf
  have hxl:xs.length≤1000:=by
   have h1:xs.length=(keysE m).length:=hp.length_eq
   have h2:(keysE m).length=m.length:=by simp[keysE]
   omega
  refine callV_frame (nx:=5) (n0:=1) (renOf [(0,4)]) (sortF_ok true false xs (by omega)) (by repeat' (first|exact True.intro|exact .osl_of rfl (by omega) rfl|exact .free (.fn (by simp) (by simp))|exact LeB.arrE rfl (rowsP_free _) id id|exact .A|exact LeL.fr rfl|refine⟨?_,?_⟩)) (LeH.of (by repeat' (first|exact LHa|exact .osl_of rfl (by omega) rfl|exact .free (.fn (by simp) (by simp))|exact LeB.arrE rfl (rowsP_free _) id id|exact .A|exact LeL.fr rfl|exact LHb|refine Or.inl ⟨by simp,_,rfl,?_⟩|exact Or.inr ⟨by simp,_,_,_,_,rfl⟩|refine⟨rfl,rfl,rfl,rfl,rfl,rfl,?_⟩|refine⟨?_,?_⟩)) (show ∀b∈([0]:List Nat),∀b'∈([0]:List Nat),(renOf [(0,4)]) b=(renOf [(0,4)]) b'→b=b' by decide) (fun _ h=>by omega) (by omega) (by simp)) (fun b hb=>by match b,hb with|0,_=>exact ne_none_of rfl) (by decide) ?_
  rintro v h' nx' ⟨rfl,rfl,rfl⟩ _
  refine⟨.tup [],[(4,some (.arr true false 31 2 (rowsP (sortPs xs))))],.free (.tup (by simp)),(by repeat' (first|exact True.intro|exact Or.inr ⟨by decide,rfl⟩|exact Or.inl ⟨0,rfl,by omega,_,rfl,RenB.arr (rowsP_free _)⟩|refine⟨?_,?_⟩)),?_⟩
  conv=>whnf
  refine⟨_,_,_,Ends.here,?_⟩
  conv=>whnf
  have hs:sortPs xs=sortPs (keysE m):=sortPs_perm (by simpa using hp)
  exact Ends.pure [4] (LeV.freeze_of (by simp) rfl (by simp[sortPs_len]) (rowsP_free _) (by rw[hs];exact List.take_of_length_le (by simp[sortPs_len,← hs]))) (one_none rfl)
 ·obtain⟨p,hpk,rfl⟩:∃p,rest[k]? = some p∧kv=(encP p.1,encA false p.2):=by
   simp only[esA,List.getElem?_map,Option.map_eq_some_iff]at hk
   obtain⟨p,h1,h2⟩:=hk
   exact⟨p,h1,h2.symm⟩
  conv=>whnf
  subst hasg hbody
  refine roundV_of tab_ok mixed rfl (by simp) (show 2 < 6 by omega) ?_
  conv=>whnf
  have hlen:xs.length + 1≤1000:=by
   have h1:=hp.length_eq
   have h2:(keysE m).length=m.length:=by simp[keysE]
   have h3:k < rest.length:=(List.getElem?_eq_some_iff.1 hpk).1
   simp only[List.length_append,keysE,List.length_map]at h1 h2
   omega
  refine⟨rfl,by first|rfl|(simp;done),by first|rfl|(simp;done),⟨rfl,rfl,rfl,rfl,by decide⟩,by simp[rowsP],⟨by simp[tab,tabOf,nth];omega,by simp;omega⟩,?_⟩
  conv=>whnf
  refine⟨rfl,?_⟩
  conv=>whnf
  have hperm:((xs ++ [p.1])++ keysE (rest.eraseIdx k)).Perm (keysE m):=by
    have h1:(keysE rest)[k]? = some p.1:=by simp[keysE,hpk]
    have h2:keysE (rest.eraseIdx k)=(keysE rest).eraseIdx k:=keys_erase rest k
    rw[h2]
    exact(perm_step h1).trans hp
  refine⟨⟨(xs ++ [p.1],rest.eraseIdx k),hperm⟩,Wk.of (renOf [(4,8)]) [] ⟨.yld rfl (by omega),.ptr rfl (by omega),trivial⟩ (LeH.of ⟨⟨by omega,.inl ⟨by simp,_,rfl,rfl,rfl,rfl,rfl,rfl,rfl,.ptr rfl (by omega),trivial⟩⟩,⟨by omega,.inl ⟨by simp,_,rfl,id,rfl,.osl_of rfl (by omega) (by simp),trivial⟩⟩,⟨by omega,.inl ⟨by simp,_,rfl,LeB.iter (esA_erase rest k) (fun kv h=>esA_free _ kv (List.mem_of_mem_eraseIdx h))⟩⟩,⟨by omega,.inl ⟨by simp,_,rfl,LeB.arrE (by simp[rowsP];exact⟨List.take_of_length_le (by simp),rfl⟩) (fun x hx v hv=>by
   rcases List.mem_append.1 hx with h|h
   ·exact rowsP_free xs x (List.mem_of_mem_take h) v hv
   ·simp at h;subst h;simp at hv;rcases hv with rfl|rfl<;>exact .int) id id⟩⟩,trivial⟩ (show ∀b∈([2,1,3,4]:List Nat),∀b'∈([2,1,3,4]:List Nat),renOf [(4,8)] b=renOf [(4,8)] b'→b=b' by decide) (show ∀b,b < 3→renOf [(4,8)] b=b by decide) (by omega) (by simp)),?_⟩
  show(rest.eraseIdx k).length < rest.length
  have:=(List.getElem?_eq_some_iff.1 hpk).1
  rw[List.length_eraseIdx]
  split<;>omega
theorem clonePs_own (fr:Bool) (l:List Prefix) (hl:l.length≤1000):OCon prog 141 [encPs fr l] true false 31 2 l.length (rowsP l):=by
 rcases l with _|⟨x,l⟩
 ·refine callV_of (fn:=Go.Proofs.Tryz.f141) (body:=_) tab_ok mixed rfl rfl (by decide) (by simp[Go.Proofs.Tryz.f141]) ?_
  conv=>whnf
  refine⟨?_,?_⟩
  ·conv=>whnf
   exact Ends.ownNil
  ·conv=>whnf
   refine⟨⟨rfl,rfl,rfl,rfl,by decide⟩,by simp,⟨by simp[tab,tabOf,nth],by simp⟩,?_⟩
   conv=>whnf
   exact Ends.own rfl (by simp) rfl rfl
 ·refine callV_of (fn:=Go.Proofs.Tryz.f141) (body:=_) tab_ok mixed rfl rfl (by decide) (by simp[Go.Proofs.Tryz.f141]) ?_
  conv=>whnf
  refine⟨⟨rfl,rfl,rfl,rfl,by decide⟩,by simp,⟨by simp[tab,tabOf,nth]at *;omega,by simp at *;omega⟩,?_⟩
  conv=>whnf
  exact Ends.own rfl (rowsP_free (x :: l)) (by simp) rfl
theorem rowsP_ff (l:List Prefix):∀x∈rowsP l,∀v∈x,Free v∧Fresh v:=by
 intro x hx v hv
 obtain⟨p,_,rfl⟩:=List.mem_map.1 hx
 simp[cellsP]at hv
 rcases hv with rfl|rfl<;>exact⟨.int,.int⟩
section
variable {h : Heap} {nx nx' : Nat} {ρ : Nat → Nat} {Z : List Nat}
theorem LeR.app:∀{xs ys xs' ys':List (List V)},LeR h nx ρ nx' Z xs ys→LeR h nx ρ nx' Z xs' ys'→LeR h nx ρ nx' Z (xs ++ xs') (ys ++ ys')
 | [],[],_,_,_,h2=>h2
 | x :: xs,y :: ys,_,_,h1,h2=>⟨h1.1,LeR.app h1.2 h2⟩
 | [],_ :: _,_,_,h1,_=>h1.elim
 | _ :: _,[],_,_,h1,_=>h1.elim
theorem LeR.set:∀{xs ys:List (List V)} {x y:List V} {k:Nat},LeR h nx ρ nx' Z xs ys→LeL h nx ρ nx' Z x y→LeR h nx ρ nx' Z (xs.set k x) (ys.set k y)
 | [],[],_,_,_,_,_=>trivial
 | a :: xs,b :: ys,x,y,0,h1,h2=>⟨h2,h1.2⟩
 | a :: xs,b :: ys,x,y,k + 1,h1,h2=>⟨h1.1,LeR.set h1.2 h2⟩
 | [],_ :: _,_,_,_,h1,_=>h1.elim
 | _ :: _,[],_,_,_,h1,_=>h1.elim
end
theorem LeR.of_eq' {h:Heap} {nx nx':Nat} {ρ:Nat→Nat} {Z:List Nat} {xs ys zs:List (List V)} (hr:LeR h nx ρ nx' Z xs ys) (e:ys=zs):LeR h nx ρ nx' Z xs zs:=e▸hr
theorem snocP (l:List Prefix) (p:Prefix):List.take (l.length + (List.take 1 (List.drop 0 [[cW p.addr,cB p.len]])).length) (List.drop 0 (List.take l.length (rowsP l)++ List.take 1 (List.drop 0 [[cW p.addr,cB p.len]])))=rowsP (l ++ [p]):=by
 show List.take (l.length + 1) (List.take l.length (rowsP l)++ [cellsP p])=rowsP (l ++ [p])
 rw[List.take_of_length_le (Nat.le_of_eq (by simp):(rowsP l).length≤l.length),List.take_of_length_le (by simp)]
 simp[rowsP]
theorem idP (l:List Prefix):List.take l.length (List.drop 0 (rowsP l))=rowsP l:=by simp[rowsP,List.take_of_length_le]
abbrev rowsUt (l:List Upd):List (List V):=l.map (cellsU true)
theorem rowsUt_ff (l:List Upd):∀x∈rowsUt l,∀v∈x,Free v∧Fresh v:=by
 intro x hx v hv
 obtain⟨u,_,rfl⟩:=List.mem_map.1 hx
 refine⟨cellsU_free true u v hv,?_⟩
 rcases List.mem_cons.1 hv with rfl|hv
 ·exact .sl fun x hx v hv=>(rowsP_ff u.gone x hx v hv).2
 rcases List.mem_cons.1 hv with rfl|hv
 ·exact .sl fun x hx v hv=>(rowsP_ff u.new x hx v hv).2
 simp only[cellsA,List.mem_cons,List.not_mem_nil,or_false]at hv
 rcases hv with rfl|rfl|rfl|rfl|rfl|rfl|rfl|rfl<;>first|exact .int|exact .bool|exact encLegs_fresh _|exact encW_fresh _
theorem rowsUt_free (l:List Upd):∀x∈rowsUt l,∀v∈x,Free v:=fun x hx v hv=>(rowsUt_ff l x hx v hv).1
theorem idxUt {l:List Upd} {k:Nat} (h:k < l.length):(rowsUt l)[k]? = some (cellsU true l[k]):=by simp[h]
def noUp:Upd:=⟨[],[],noA⟩
def moreG (u:Upd) (p:Prefix):Upd:={ u with gone:=u.gone ++ [p] }
def moreN (u:Upd) (p:Prefix):Upd:={ u with new:=u.new ++ [p] }
def fitU (more:Upd→Prefix→Upd) (us:List Upd) (k:Nat) (p:Prefix):Bool:=decide (checkU (more (us.getD k noUp) p)=0)
def putU (more:Upd→Prefix→Upd) (us:List Upd) (k:Nat) (p:Prefix):List Upd:=if fitU more us k p then us.set k (more (us.getD k noUp) p)else us
abbrev arrU (us:List Upd):Option Blk:=some (.arr true false 86 10 (rowsUt us))
abbrev varP (p:Prefix):Option Blk:=some (.var true 31 (cellsP p))
def FitC (g:FuncId) (more:Upd→Prefix→Upd) (us:List Upd) (k:Nat) (p:Prefix):Prop:=
 CallV prog 92 [.eptr 0 10 k 0,.fn (.func g) [] [.ptr 1 0]] [(0,arrU us),(1,varP p)] 2 (fun v h nx=>v=.bool (fitU more us k p)∧h=[(0,arrU (putU more us k p)),(1,varP p)]∧nx=2)
theorem fitG_ok (us:List Upd) (k:Nat) (hk:k < us.length) (p:Prefix) (hg:us[k].gone.length≤900) (hn:us[k].new.length≤900) (ha:smallA us[k].attrs∧fewA us[k].attrs=true):FitC 91 moreG us k p:=by
 have hcg:=clonePs_own false us[k].gone (by omega)
 have hcn:=clonePs_own false us[k].new (by omega)
 have hcp:=copy_pure true us[k].attrs ha.1.1 ha.1.2.1 ha.1.2.2
 have hgd:us.getD k noUp=us[k]:=by simp[hk]
 have hck:=ucheck_ok false (moreG us[k] p) ⟨by simp[moreG];omega,by simp[moreG];omega,ha.2⟩
 unfold FitC
 refine callV_of (fn:=Go.Proofs.Tryz.f92) (body:=_) tab_ok mixed rfl rfl (by decide) (by simp[Go.Proofs.Tryz.f92]) ?_
 conv=>whnf
 refine⟨rfl,_,idxUt hk,?_⟩
 conv=>whnf
 refine⟨.osl 2 2 0 us[k].gone.length,[],.arr true false 31 2 (rowsP us[k].gone),fun h nx _=>newV_own [] hcg ⟨.fresh_off (.fr rfl),trivial⟩ (by intro v hv;simp at hv;subst hv;exact encPs_cold _) (by simp) (rowsP_ff _),by simp,?_⟩
 conv=>whnf
 refine⟨rfl,_,idxUt hk,?_⟩
 conv=>whnf
 refine⟨.osl 3 2 0 us[k].new.length,[],.arr true false 31 2 (rowsP us[k].new),fun h nx _=>newV_own [] hcn ⟨.fresh_off (.fr rfl),trivial⟩ (by intro v hv;simp at hv;subst hv;exact encPs_cold _) (by simp) (rowsP_ff _),by simp,?_⟩
 conv=>whnf
 refine⟨rfl,_,idxUt hk,?_⟩
 conv=>whnf
 refine⟨_,[],fun h nx _=>pureV_pure hcp ⟨.fr rfl,trivial⟩,by simp,?_⟩
 conv=>whnf
 refine⟨by kernel_rfl,?_⟩
 conv=>whnf
 refine callV_of (fn:=Go.Proofs.Tryz.f91) (body:=_) tab_ok mixed rfl rfl (by decide) (by simp[Go.Proofs.Tryz.f91]) ?_
 conv=>whnf
 refine⟨rfl,by simp,?_⟩
 conv=>whnf
 refine⟨⟨rfl,rfl,rfl,rfl,by decide⟩,by simp,⟨by simp[tab,tabOf,nth];omega,by simp;omega⟩,?_⟩
 conv=>whnf
 refine⟨by kernel_rfl,?_⟩
 conv=>whnf
 refine⟨_,_,_,Ends.here,?_⟩
 conv=>whnf
 refine callV_lend [6,3] hck ⟨.aggL ⟨.fresh_off (.freezeE (by simp) rfl (by simp) (snocP _ _) (rowsP_free _)),.fresh_off (.freezeE (by simp) rfl (by simp) (idP _) (rowsP_free _)),cellsA_off⟩,trivial⟩ (by intro v hv;simp at hv;subst hv;exact encU_cld _) (by intro z hz;simp only[List.mem_cons,List.not_mem_nil,or_false]at hz;rcases hz with rfl|rfl<;>exact ne_none_of rfl) .int ?_
 by_cases hc:checkU (moreG us[k] p)=0
 ·rw[show(moreG us[k] p)=_ from rfl]at hc
  have ef:fitU moreG us k p=true:=by simp only[fitU,hgd];exact decide_eq_true hc
  conv=>whnf
  rw[show(checkU (moreG us[k] p) != 0)=false by simp[hc]]
  conv=>whnf
  refine⟨rfl,_,idxUt hk,?_⟩
  conv=>whnf
  refine⟨.bool true,[(0,arrU (us.set k (moreG us[k] p))),(1,varP p)],2,(Ends.all id [6,3] (by repeat' (first|exact LHa|exact⟨id,id,rfl,rfl,LeR.out (LeR.of_eq' (LeR.set (LeR.free (rowsUt_free us)) (y:=cellsU true (moreG us[k] p)) ⟨LeV.freezeE (by simp) rfl (by simp) (snocP _ _) (rowsP_free _),LeV.freezeE (by simp) rfl (by simp) (idP _) (rowsP_free _),.fr rfl,.fr rfl,.fr rfl,.fr rfl,.fr rfl,.fr rfl,.fr rfl,.fr rfl,trivial⟩) (by simp))⟩|exact .A|exact LeL.fr rfl|exact LHb|refine Or.inl ⟨by simp,_,rfl,?_⟩|exact Or.inr ⟨by simp,_,_,_,_,rfl⟩|refine⟨rfl,rfl,rfl,rfl,rfl,rfl,?_⟩|refine⟨?_,?_⟩)) (fun _ _ _ _ h=>h) (fun _ _=>rfl) (by omega) (by intro z hz;simp only[List.mem_cons,List.not_mem_nil,or_false]at hz;rcases hz with rfl|rfl<;>exact ne_none_of rfl)),?_,?_,rfl⟩
  ·rw[ef]
  ·simp only[putU,ef,if_true,hgd]
 ·have ef:fitU moreG us k p=false:=by simp only[fitU,hgd];exact decide_eq_false hc
  conv=>whnf
  rw[show(checkU (moreG us[k] p) != 0)=true by simp[hc]]
  conv=>whnf
  refine⟨.bool false,[(0,arrU us),(1,varP p)],2,(Ends.all id [] (by repeat' (first|exact LHa|exact⟨id,id,rfl,rfl,LeR.out (LeR.free (rowsUt_free us))⟩|exact .A|exact LeL.fr rfl|exact LHb|refine Or.inl ⟨by simp,_,rfl,?_⟩|exact Or.inr ⟨by simp,_,_,_,_,rfl⟩|refine⟨rfl,rfl,rfl,rfl,rfl,rfl,?_⟩|refine⟨?_,?_⟩)) (fun _ _ _ _ h=>h) (fun _ _=>rfl) (by omega) (by simp)),?_,?_,rfl⟩
  ·rw[ef]
  ·simp only[putU,ef,Bool.false_eq_true,if_false]
theorem fitN_ok (us:List Upd) (k:Nat) (hk:k < us.length) (p:Prefix) (hg:us[k].gone.length≤900) (hn:us[k].new.length≤900) (ha:smallA us[k].attrs∧fewA us[k].attrs=true):FitC 93 moreN us k p:=by
 have hcg:=clonePs_own false us[k].gone (by omega)
 have hcn:=clonePs_own false us[k].new (by omega)
 have hcp:=copy_pure true us[k].attrs ha.1.1 ha.1.2.1 ha.1.2.2
 have hgd:us.getD k noUp=us[k]:=by simp[hk]
 have hck:=ucheck_ok false (moreN us[k] p) ⟨by simp[moreN];omega,by simp[moreN];omega,ha.2⟩
 unfold FitC
 refine callV_of (fn:=Go.Proofs.Tryz.f92) (body:=_) tab_ok mixed rfl rfl (by decide) (by simp[Go.Proofs.Tryz.f92]) ?_
 conv=>whnf
 refine⟨rfl,_,idxUt hk,?_⟩
 conv=>whnf
 refine⟨.osl 2 2 0 us[k].gone.length,[],.arr true false 31 2 (rowsP us[k].gone),fun h nx _=>newV_own [] hcg ⟨.fresh_off (.fr rfl),trivial⟩ (by intro v hv;simp at hv;subst hv;exact encPs_cold _) (by simp) (rowsP_ff _),by simp,?_⟩
 conv=>whnf
 refine⟨rfl,_,idxUt hk,?_⟩
 conv=>whnf
 refine⟨.osl 3 2 0 us[k].new.length,[],.arr true false 31 2 (rowsP us[k].new),fun h nx _=>newV_own [] hcn ⟨.fresh_off (.fr rfl),trivial⟩ (by intro v hv;simp at hv;subst hv;exact encPs_cold _) (by simp) (rowsP_ff _),by simp,?_⟩
 conv=>whnf
 refine⟨rfl,_,idxUt hk,?_⟩
 conv=>whnf
 refine⟨_,[],fun h nx _=>pureV_pure hcp ⟨.fr rfl,trivial⟩,by simp,?_⟩
 conv=>whnf
 refine⟨by kernel_rfl,?_⟩
 conv=>whnf
 refine callV_of (fn:=Go.Proofs.Tryz.f93) (body:=_) tab_ok mixed rfl rfl (by decide) (by simp[Go.Proofs.Tryz.f93]) ?_
 conv=>whnf
 refine⟨rfl,by simp,?_⟩
 conv=>whnf
 refine⟨⟨rfl,rfl,rfl,rfl,by decide⟩,by simp,⟨by simp[tab,tabOf,nth];omega,by simp;omega⟩,?_⟩
 conv=>whnf
 refine⟨by kernel_rfl,?_⟩
 conv=>whnf
 refine⟨_,_,_,Ends.here,?_⟩
 conv=>whnf
 refine callV_lend [6,2] hck ⟨.aggL ⟨.fresh_off (.freezeE (by simp) rfl (by simp) (idP _) (rowsP_free _)),.fresh_off (.freezeE (by simp) rfl (by simp) (snocP _ _) (rowsP_free _)),cellsA_off⟩,trivial⟩ (by intro v hv;simp at hv;subst hv;exact encU_cld _) (by intro z hz;simp only[List.mem_cons,List.not_mem_nil,or_false]at hz;rcases hz with rfl|rfl<;>exact ne_none_of rfl) .int ?_
 by_cases hc:checkU (moreN us[k] p)=0
 ·rw[show(moreN us[k] p)=_ from rfl]at hc
  have ef:fitU moreN us k p=true:=by simp only[fitU,hgd];exact decide_eq_true hc
  conv=>whnf
  rw[show(checkU (moreN us[k] p) != 0)=false by simp[hc]]
  conv=>whnf
  refine⟨rfl,_,idxUt hk,?_⟩
  conv=>whnf
  refine⟨.bool true,[(0,arrU (us.set k (moreN us[k] p))),(1,varP p)],2,(Ends.all id [6,2] (by repeat' (first|exact LHa|exact⟨id,id,rfl,rfl,LeR.out (LeR.of_eq' (LeR.set (LeR.free (rowsUt_free us)) (y:=cellsU true (moreN us[k] p)) ⟨LeV.freezeE (by simp) rfl (by simp) (idP _) (rowsP_free _),LeV.freezeE (by simp) rfl (by simp) (snocP _ _) (rowsP_free _),.fr rfl,.fr rfl,.fr rfl,.fr rfl,.fr rfl,.fr rfl,.fr rfl,.fr rfl,trivial⟩) (by simp))⟩|exact .A|exact LeL.fr rfl|exact LHb|refine Or.inl ⟨by simp,_,rfl,?_⟩|exact Or.inr ⟨by simp,_,_,_,_,rfl⟩|refine⟨rfl,rfl,rfl,rfl,rfl,rfl,?_⟩|refine⟨?_,?_⟩)) (fun _ _ _ _ h=>h) (fun _ _=>rfl) (by omega) (by intro z hz;simp only[List.mem_cons,List.not_mem_nil,or_false]at hz;rcases hz with rfl|rfl<;>exact ne_none_of rfl)),?_,?_,rfl⟩
  ·rw[ef]
  ·simp only[putU,ef,if_true,hgd]
 ·have ef:fitU moreN us k p=false:=by simp only[fitU,hgd];exact decide_eq_false hc
  conv=>whnf
  rw[show(checkU (moreN us[k] p) != 0)=true by simp[hc]]
  conv=>whnf
  refine⟨.bool false,[(0,arrU us),(1,varP p)],2,(Ends.all id [] (by repeat' (first|exact LHa|exact⟨id,id,rfl,rfl,LeR.out (LeR.free (rowsUt_free us))⟩|exact .A|exact LeL.fr rfl|exact LHb|refine Or.inl ⟨by simp,_,rfl,?_⟩|exact Or.inr ⟨by simp,_,_,_,_,rfl⟩|refine⟨rfl,rfl,rfl,rfl,rfl,rfl,?_⟩|refine⟨?_,?_⟩)) (fun _ _ _ _ h=>h) (fun _ _=>rfl) (by omega) (by simp)),?_,?_,rfl⟩
  ·rw[ef]
  ·simp only[putU,ef,Bool.false_eq_true,if_false]
end
section
open Go.Proofs.Tryz (prog)
def goKs (K:List Prefix) (n:List (Prefix × Attrs)):List Prefix:=K.filter fun p=>!decide (p∈keysE n)
theorem goKs_succ {K:List Prefix} {n:List (Prefix × Attrs)} {i:Nat} (h:i < K.length):goKs (K.take (i + 1)) n=if K[i]∈keysE n then goKs (K.take i) n else goKs (K.take i) n ++ [K[i]]:=by
 unfold goKs
 rw[List.take_succ_eq_append_getElem h,List.filter_append]
 by_cases hm:K[i]∈keysE n<;>simp[hm]
theorem goU_snoc (l:List Prefix) (p:Prefix):goU (l ++ [p])=goS (goU l) p:=by
 unfold goU
 rw[List.foldl_append]
 rfl
theorem gone_getD (out:List (List Prefix)) (k:Nat):(goneU out).getD k noUp=⟨out.getD k [],[],noA⟩:=by
 simp only[goneU,List.getD_eq_getElem?_getD,List.getElem?_map]
 cases out[k]?<;>rfl
theorem fitG_eq (out:List (List Prefix)) (k:Nat) (p:Prefix):fitU moreG (goneU out) k p=decide (checkU ⟨out.getD k []++ [p],[],noA⟩=0):=by
 unfold fitU
 rw[gone_getD]
 rfl
theorem goS_put {out:List (List Prefix)} {p:Prefix} (h:0 < out.length) (hf:fitU moreG (goneU out) (out.length - 1) p=true):putU moreG (goneU out) (out.length - 1) p=goneU (goS out p):=by
 have hf':=hf
 rw[fitG_eq,decide_eq_true_eq]at hf
 rw[putU,if_pos hf',gone_getD,goS,if_pos ⟨h,hf⟩]
 simp[goneU,moreG,List.map_set]
theorem goS_new {out:List (List Prefix)} {p:Prefix} (hf:0 < out.length→fitU moreG (goneU out) (out.length - 1) p=false):goS out p=out ++ [[p]]:=by
 rw[goS,if_neg]
 rintro ⟨h1,h2⟩
 have:=hf h1
 rw[fitG_eq,decide_eq_false_iff_not]at this
 exact this h2
theorem gone_len (out:List (List Prefix)):(goneU out).length=out.length:=by simp[goneU]
theorem noA_few:smallA noA∧fewA noA=true:=⟨noA_small,by decide⟩
attribute [local irreducible] CallV RoundV aggK
instance {l:List Upd}:FreeRI (l.map (cellsU true)):=⟨⟨rowsUt_free l⟩⟩
theorem goes_ok (m n:List (Prefix × Attrs)) (hm:m.length≤1000) (hn:n.length≤1000) :
  OCon prog 46 [.imap false (esA m),.imap false (esA n)] true false 86 10 (goneU (goU (goKs (sortPs (keysE m)) n))).length (rowsUt (goneU (goU (goKs (sortPs (keysE m)) n)))):=by
 have hso:=sortedO_ok m hm
 have hKl:(sortPs (keysE m)).length≤1000:=by rw[sortPs_len,keysE_len];exact hm
 generalize sortPs (keysE m)=K at hso hKl ⊢
 refine callV_of (fn:=Go.Proofs.Tryz.f46) (body:=_) tab_ok mixed rfl rfl (by decide) (by simp[Go.Proofs.Tryz.f46]) ?_
 conv=>whnf
 refine callV_pure hso ⟨.fr rfl,trivial⟩ ?_
 conv=>whnf
 intro hgl
 have hgl:K.length≤maxLen:=by simpa[gd]using hgl
 conv=>whnf
 refine vcg_loop tab_ok mixed (fun i:{i:Nat // i≤K.length}=>⟨[(0,.imap false (esA m)),(1,.imap false (esA n)),(4,.osl 0 10 0 (goneU (goU (goKs (K.take i.1) n))).length),(11,encPs true K),(12,cI K.length),(13,cI i.1)],[(0,arrU (goneU (goU (goKs (K.take i.1) n))))],1⟩) (fun i=>K.length - i.1) ⟨0,by omega⟩ (Wk.i (by repeat' (first|exact LHa|exact .int_of (by simp)|exact .A|exact LeL.fr rfl|exact LHb|refine Or.inl ⟨by simp,_,rfl,?_⟩|exact Or.inr ⟨by simp,_,_,_,_,rfl⟩|refine⟨rfl,rfl,rfl,rfl,rfl,rfl,?_⟩|refine⟨?_,?_⟩)) (by omega)) (fun i=>?_)
 obtain⟨i,hi⟩:=i
 conv=>whnf
 split
 ·rename_i hc
  have hc:i < K.length:=by simpa using hc
  have hI:=goU_I (goKs (K.take i) n)
  have hL:(goKs (K.take i) n).length≤1000:=Nat.le_trans (List.length_filter_le _ _) (by rw[List.length_take];omega)
  have hI:GoI 1000 (goU (goKs (K.take i) n)):=hI.more hL
  have hs:=goKs_succ (n:=n) hc
  conv=>whnf
  refine ixK (idxP hc) ?_
  conv=>whnf
  cases hg:getE n K[i]with
  | some a=>
   rw[if_pos (getE_key hg)]at hs
   refine⟨esA_keys _,keyP _,some (encA false a),look_some hg,?_⟩
   conv=>whnf
   exact⟨⟨i + 1,by omega⟩,(Wk.i (by repeat' (first|exact LHa|exact .int_of (wrap64_succ hc hgl)|exact .osl_of rfl (by omega) (by simp only[hs])|exact LeB.fr (by simp only[hs]) id id|exact .A|exact LeL.fr rfl|exact LHb|refine Or.inl ⟨by simp,_,rfl,?_⟩|exact Or.inr ⟨by simp,_,_,_,_,rfl⟩|refine⟨rfl,rfl,rfl,rfl,rfl,rfl,?_⟩|refine⟨?_,?_⟩)) (by omega)),by simp only;omega⟩
  | none=>
   rw[if_neg (getE_none.1 hg)]at hs
   have hs2:goU (goKs (K.take (i + 1)) n)=goS (goU (goKs (K.take i) n)) K[i]:=by rw[hs,goU_snoc]
   generalize goU (goKs (K.take i) n)=out at *
   refine⟨esA_keys _,keyP _,none,look_none hg,?_⟩
   conv=>whnf
   intro hgo
   conv=>whnf
   split
   ·rename_i hz
    have hz:0 < out.length:=by simpa[gone_len]using hz
    conv=>whnf
    intro hgo2
    have hw:IntKind.i64.wrap (((goneU out).length:Int) - 1)=((out.length - 1:Nat):Int):=by rw[gone_len,wrap64 (by omega) (by have:=hI.len;omega)];omega
    conv=>whnf
    rw[hw]
    refine⟨rfl,⟨by omega,by rw[gone_len];omega⟩,?_⟩
    conv=>whnf
    rw[show 0 + ((out.length - 1:Nat):Int).toNat=out.length - 1 by simp]
    have hf:=fitG_ok (goneU out) (out.length - 1) (by rw[gone_len];omega) K[i] (by simp only[goneU,List.getElem_map];have:=hI.few _ (List.getElem_mem (by omega:out.length - 1 < out.length));omega) (by simp[goneU]) (by simp only[goneU,List.getElem_map];exact noA_few)
    unfold FitC at hf
    refine callV_frame (nx:=3) (n0:=2) (renOf [(0,0),(1,1)]) (hf) (by repeat' (first|exact True.intro|exact .eptr rfl (by omega)|exact .fnL trivial ⟨.ptr rfl (by omega),trivial⟩|exact .A|exact LeL.fr rfl|refine⟨?_,?_⟩)) (LeH.of (by repeat' (first|exact LHa|exact .eptr rfl (by omega)|exact .fnL trivial ⟨.ptr rfl (by omega),trivial⟩|exact .A|exact LeL.fr rfl|exact LHb|refine Or.inl ⟨by simp,_,rfl,?_⟩|exact Or.inr ⟨by simp,_,_,_,_,rfl⟩|refine⟨rfl,rfl,rfl,rfl,rfl,rfl,?_⟩|refine⟨?_,?_⟩)) (show ∀b∈([0,1]:List Nat),∀b'∈([0,1]:List Nat),(renOf [(0,0),(1,1)]) b=(renOf [(0,0),(1,1)]) b'→b=b' by decide) (fun _ h=>by omega) (by omega) (by simp)) (fun b hb=>by match b,hb with|0,_=>exact ne_none_of rfl|1,_=>exact ne_none_of rfl) (by decide) ?_
    rintro v h' nx' ⟨rfl,rfl,rfl⟩ _
    refine⟨.bool (fitU moreG (goneU out) (out.length - 1) K[i]),[(0,arrU (putU moreG (goneU out) (out.length - 1) K[i])),(1,varP K[i])],.free .bool,(by repeat' (first|exact True.intro|exact Or.inr ⟨by decide,rfl⟩|exact Or.inl ⟨0,rfl,by omega,_,rfl,.arr (rowsUt_free _)⟩|exact Or.inl ⟨1,rfl,by omega,_,rfl,.var (cellsP_free _)⟩|refine⟨?_,?_⟩)),?_⟩
    cases hfb:fitU moreG (goneU out) (out.length - 1) K[i]with
    | true=>
     have hgl1:(goS out K[i]).length=out.length:=by
      rw[fitG_eq,decide_eq_true_eq]at hfb
      rw[goS,if_pos ⟨hz,hfb⟩]
      simp
     rw[goS_put hz hfb]
     conv=>whnf
     exact⟨⟨i + 1,by omega⟩,(Wk.i (by repeat' (first|exact LHa|exact .int_of (wrap64_succ hc hgl)|exact .osl_of rfl (by omega) (by simp only[hs2,gone_len,hgl1])|exact LeB.fr (by simp only[hs2]) id id|exact .A|exact LeL.fr rfl|exact LHb|refine Or.inl ⟨by simp,_,rfl,?_⟩|exact Or.inr ⟨by simp,_,_,_,_,rfl⟩|refine⟨rfl,rfl,rfl,rfl,rfl,rfl,?_⟩|refine⟨?_,?_⟩)) (by omega)),by simp only;omega⟩
    | false=>
     have hn1:goS out K[i]=out ++ [[K[i]]]:=goS_new fun _=>hfb
     rw[show putU moreG (goneU out) (out.length - 1) K[i]=goneU out by rw[putU,hfb];rfl]
     conv=>whnf
     refine⟨rfl,by simp,?_⟩
     conv=>whnf
     refine⟨⟨rfl,rfl,rfl,rfl,by decide⟩,by simp,⟨by simp[tab,tabOf,nth,gone_len];have:=hI.len;omega,by simp[gone_len];have:=hI.len;omega⟩,?_⟩
     conv=>whnf
     exact⟨⟨i + 1,by omega⟩,(Wk.all (renOf [(0,5)]) [3] (by repeat' (first|exact LHa|exact .int_of (wrap64_succ hc hgl)|exact .osl_of rfl (by omega) (by simp only[hs2,hn1];simp[goneU])|exact Or.inl ⟨by decide,_,rfl,id,id,rfl,rfl,LeR.out (LeR.of_eq' (LeR.app (LeR.of_eq (List.take_of_length_le (by simp)) (.free (rowsUt_free (goneU out)))) (ys':=rowsUt [⟨[K[i]],[],noA⟩]) ⟨⟨.freezeE (by simp) rfl (by simp) rfl (rowsP_free _),.snil_sl,.fr rfl,.snil_sl,.fr rfl,.fr rfl,.fr rfl,.fr rfl,.fr rfl,.snil_sl,trivial⟩,trivial⟩) (by simp only[hs2,hn1];simp[goneU]))⟩|exact .A|exact LeL.fr rfl|exact LHb|refine Or.inl ⟨by simp,_,rfl,?_⟩|exact Or.inr ⟨by simp,_,_,_,_,rfl⟩|refine⟨rfl,rfl,rfl,rfl,rfl,rfl,?_⟩|refine⟨?_,?_⟩)) (show ∀b∈([0]:List Nat),∀b'∈([0]:List Nat),(renOf [(0,5)]) b=(renOf [(0,5)]) b'→b=b' by decide) (fun _ h=>by omega) (by omega) (by intro z hz;simp only[List.mem_cons,List.not_mem_nil,or_false]at hz;rcases hz with rfl<;>exact ne_none_of rfl)),by simp only;omega⟩
   ·rename_i hz
    have hz:out.length=0:=by simpa[gone_len]using hz
    have hn1:goS out K[i]=out ++ [[K[i]]]:=goS_new fun h=>by omega
    conv=>whnf
    refine⟨rfl,by simp,?_⟩
    conv=>whnf
    refine⟨⟨rfl,rfl,rfl,rfl,by decide⟩,by simp,⟨by simp[tab,tabOf,nth,gone_len];have:=hI.len;omega,by simp[gone_len];have:=hI.len;omega⟩,?_⟩
    conv=>whnf
    exact⟨⟨i + 1,by omega⟩,(Wk.all (renOf [(0,5)]) [3] (by repeat' (first|exact LHa|exact .int_of (wrap64_succ hc hgl)|exact .osl_of rfl (by omega) (by simp only[hs2,hn1];simp[goneU])|exact Or.inl ⟨by decide,_,rfl,id,id,rfl,rfl,LeR.out (LeR.of_eq' (LeR.app (LeR.of_eq (List.take_of_length_le (by simp)) (.free (rowsUt_free (goneU out)))) (ys':=rowsUt [⟨[K[i]],[],noA⟩]) ⟨⟨.freezeE (by simp) rfl (by simp) rfl (rowsP_free _),.snil_sl,.fr rfl,.snil_sl,.fr rfl,.fr rfl,.fr rfl,.fr rfl,.fr rfl,.snil_sl,trivial⟩,trivial⟩) (by simp only[hs2,hn1];simp[goneU]))⟩|exact .A|exact LeL.fr rfl|exact LHb|refine Or.inl ⟨by simp,_,rfl,?_⟩|exact Or.inr ⟨by simp,_,_,_,_,rfl⟩|refine⟨rfl,rfl,rfl,rfl,rfl,rfl,?_⟩|refine⟨?_,?_⟩)) (show ∀b∈([0]:List Nat),∀b'∈([0]:List Nat),(renOf [(0,5)]) b=(renOf [(0,5)]) b'→b=b' by decide) (fun _ h=>by omega) (by omega) (by intro z hz;simp only[List.mem_cons,List.not_mem_nil,or_false]at hz;rcases hz with rfl<;>exact ne_none_of rfl)),by simp only;omega⟩
 rename_i hc
 have hc:i=K.length:=by simp at hc;omega
 subst hc
 conv=>whnf
 rw[List.take_length]
 exact Ends.own rfl (rowsUt_free _) rfl rfl
end
end Go.Proofs.YteogfjpaljbkoaaGreat
