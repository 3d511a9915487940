/- The library's contracts at this program, as the kit's shelf lays them. No conditions of its own. -/
import Derived.Shelf.SlGeneric
import Derived.Shelf.SlIterI.Nil
import Derived.Shelf.SortM.Plain
import Derived.Shelf.SortM.SortNone
import Derived.Ground.GgzProg
import Derived.Ground.SlgmProg
import Derived.Test.YtbdfljdgapkbcaaGreatDoorProg
namespace Go.Proofs
open Go.Shelf
def Tryz.keysA_ren:Go.Shelf.Ren:=⟨λ|10=>48|n=>n,λ|33=>58|23=>63|0=>0|4=>4|26=>3|3=>69|n=>n,λ|n=>n⟩
theorem Tryz.keysA:Go.Proofs.SlLaysZI.n10 Tryz.prog Tryz.keysA_ren:={
  mixed:=by kernel_rfl
  f10:=⟨Tryz.f48.name,by decide,Tryz.func48.trans (congrArg some (by kernel_rfl))⟩
  t0:=Tryz.underlying0
  a0:=Tryz.isAgg0
  z0:=Tryz.sizeOf0
  v0:=Tryz.zeroValue0
  t4:=Tryz.underlying4
  a4:=Tryz.isAgg4
  z4:=Tryz.sizeOf4
  v4:=Tryz.zeroValue4
  t23:=Tryz.underlying63
  a23:=Tryz.isAgg63
  z23:=Tryz.sizeOf63
  v23:=Tryz.zeroValue63
  t26:=Tryz.underlying3
  a26:=Tryz.isAgg3
  z26:=Tryz.sizeOf3
  v26:=Tryz.zeroValue3
  t33:=Tryz.underlying58
  a33:=Tryz.isAgg58
  z33:=Tryz.sizeOf58
  v33:=Tryz.zeroValue58}
def Tryz.sortedA_ren:Go.Shelf.Ren:=⟨λ|6=>27|8=>46|9=>47|11=>82|13=>84|12=>83|23=>129|24=>130|14=>120|15=>121|16=>122|17=>123|18=>124|19=>125|20=>126|21=>127|22=>128|25=>157|26=>158|27=>159|28=>160|29=>161|30=>162|31=>186|n=>n,λ|26=>3|28=>66|24=>36|0=>0|3=>3|37=>126|48=>108|50=>154|4=>4|40=>147|39=>146|45=>77|5=>5|9=>9|51=>184|55=>188|57=>226|58=>165|33=>58|n=>n,λ|n=>n⟩
theorem Tryz.sortedA:Go.Proofs.SlLaysZI.n6 Tryz.prog Tryz.sortedA_ren:={
  mixed:=by kernel_rfl
  f6:=⟨Tryz.f27.name,by decide,Tryz.func27.trans (congrArg some (by kernel_rfl))⟩
  f8:=⟨Tryz.f46.name,by decide,Tryz.func46.trans (congrArg some (by kernel_rfl))⟩
  f11:=⟨Tryz.f82.name,by decide,Tryz.func82.trans (congrArg some (by kernel_rfl))⟩
  t0:=Tryz.underlying0
  a0:=Tryz.isAgg0
  z0:=Tryz.sizeOf0
  v0:=Tryz.zeroValue0
  t24:=Tryz.underlying36
  a24:=Tryz.isAgg36
  z24:=Tryz.sizeOf36
  v24:=Tryz.zeroValue36
  t26:=Tryz.underlying3
  a26:=Tryz.isAgg3
  z26:=Tryz.sizeOf3
  v26:=Tryz.zeroValue3
  t28:=Tryz.underlying66
  a28:=Tryz.isAgg66
  z28:=Tryz.sizeOf66
  v28:=Tryz.zeroValue66
  i26:=by kernel_rfl}
def Tryz.sortA_ren:Go.Shelf.Ren:=⟨λ|5=>47|8=>84|7=>83|19=>129|20=>130|10=>120|11=>121|12=>122|13=>123|14=>124|15=>125|16=>126|17=>127|18=>128|30=>157|31=>158|32=>159|33=>160|34=>161|35=>162|40=>186|n=>n,λ|23=>36|25=>3|3=>3|32=>126|22=>36|0=>0|44=>108|46=>154|4=>4|36=>147|35=>146|41=>77|5=>5|9=>9|53=>184|57=>188|63=>226|64=>165|n=>n,λ|n=>n⟩
theorem Tryz.sortA:Go.Proofs.SlLaysM.n5 Tryz.prog Tryz.sortA_ren:={
  mixed:=by kernel_rfl
  f5:=⟨Tryz.f47.name,by decide,Tryz.func47.trans (congrArg some (by kernel_rfl))⟩
  f7:=⟨Tryz.f83.name,by decide,Tryz.func83.trans (congrArg some (by kernel_rfl))⟩
  f8:=Tryz.func84.trans (congrArg some (by kernel_rfl))
  f10:=⟨Tryz.f120.name,by decide,Tryz.func120.trans (congrArg some (by kernel_rfl))⟩
  f11:=⟨Tryz.f121.name,by decide,Tryz.func121.trans (congrArg some (by kernel_rfl))⟩
  f12:=⟨Tryz.f122.name,by decide,Tryz.func122.trans (congrArg some (by kernel_rfl))⟩
  f13:=⟨Tryz.f123.name,by decide,Tryz.func123.trans (congrArg some (by kernel_rfl))⟩
  f14:=⟨Tryz.f124.name,by decide,Tryz.func124.trans (congrArg some (by kernel_rfl))⟩
  f15:=⟨Tryz.f125.name,by decide,Tryz.func125.trans (congrArg some (by kernel_rfl))⟩
  f16:=⟨Tryz.f126.name,by decide,Tryz.func126.trans (congrArg some (by kernel_rfl))⟩
  f17:=⟨Tryz.f127.name,by decide,Tryz.func127.trans (congrArg some (by kernel_rfl))⟩
  f18:=⟨Tryz.f128.name,by decide,Tryz.func128.trans (congrArg some (by kernel_rfl))⟩
  f19:=Tryz.func129.trans (congrArg some (by kernel_rfl))
  f20:=Tryz.func130.trans (congrArg some (by kernel_rfl))
  f30:=⟨Tryz.f157.name,by decide,Tryz.func157.trans (congrArg some (by kernel_rfl))⟩
  f31:=Tryz.func158.trans (congrArg some (by kernel_rfl))
  f32:=Tryz.func159.trans (congrArg some (by kernel_rfl))
  f33:=⟨Tryz.f160.name,by decide,Tryz.func160.trans (congrArg some (by kernel_rfl))⟩
  f34:=⟨Tryz.f161.name,by decide,Tryz.func161.trans (congrArg some (by kernel_rfl))⟩
  f35:=⟨Tryz.f162.name,by decide,Tryz.func162.trans (congrArg some (by kernel_rfl))⟩
  f40:=⟨Tryz.f186.name,by decide,Tryz.func186.trans (congrArg some (by kernel_rfl))⟩
  t0:=Tryz.underlying0
  a0:=Tryz.isAgg0
  z0:=Tryz.sizeOf0
  v0:=Tryz.zeroValue0
  t3:=Tryz.underlying3
  a3:=Tryz.isAgg3
  z3:=Tryz.sizeOf3
  v3:=Tryz.zeroValue3
  t4:=Tryz.underlying4
  a4:=Tryz.isAgg4
  z4:=Tryz.sizeOf4
  v4:=Tryz.zeroValue4
  t5:=Tryz.underlying5
  a5:=Tryz.isAgg5
  z5:=Tryz.sizeOf5
  v5:=Tryz.zeroValue5
  t9:=Tryz.underlying9
  a9:=Tryz.isAgg9
  z9:=Tryz.sizeOf9
  v9:=Tryz.zeroValue9
  t22:=Tryz.underlying36
  a22:=Tryz.isAgg36
  z22:=Tryz.sizeOf36
  v22:=Tryz.zeroValue36
  t23:=Tryz.underlying36
  a23:=Tryz.isAgg36
  z23:=Tryz.sizeOf36
  v23:=Tryz.zeroValue36
  t25:=Tryz.underlying3
  a25:=Tryz.isAgg3
  z25:=Tryz.sizeOf3
  v25:=Tryz.zeroValue3
  t32:=Tryz.underlying126
  a32:=Tryz.isAgg126
  z32:=Tryz.sizeOf126
  v32:=Tryz.zeroValue126
  t35:=Tryz.underlying146
  a35:=Tryz.isAgg146
  z35:=Tryz.sizeOf146
  v35:=Tryz.zeroValue146
  t36:=Tryz.underlying147
  a36:=Tryz.isAgg147
  z36:=Tryz.sizeOf147
  v36:=Tryz.zeroValue147
  t41:=Tryz.underlying77
  a41:=Tryz.isAgg77
  z41:=Tryz.sizeOf77
  v41:=Tryz.zeroValue77
  t44:=Tryz.underlying108
  a44:=Tryz.isAgg108
  z44:=Tryz.sizeOf108
  v44:=Tryz.zeroValue108
  t46:=Tryz.underlying154
  a46:=Tryz.isAgg154
  z46:=Tryz.sizeOf154
  v46:=Tryz.zeroValue154
  t53:=Tryz.underlying184
  a53:=Tryz.isAgg184
  z53:=Tryz.sizeOf184
  v53:=Tryz.zeroValue184
  t57:=Tryz.underlying188
  a57:=Tryz.isAgg188
  z57:=Tryz.sizeOf188
  v57:=Tryz.zeroValue188
  t63:=Tryz.underlying226
  a63:=Tryz.isAgg226
  z63:=Tryz.sizeOf226
  v63:=Tryz.zeroValue226
  t64:=Tryz.underlying165
  a64:=Tryz.isAgg165
  z64:=Tryz.sizeOf165
  v64:=Tryz.zeroValue165}
open Go.RowKit Go.Maps Go.Sort
theorem Tryz.sortsA(m:Nat):AnyZI.SortsIn Tryz.prog Tryz.sortedA_ren Fence.wide m:=
  ⟨λblk off cap ss W hH hblk hsz=>callsIn_wide.2 (AnyM.slices_Sort_int Tryz.sortA blk off cap ss W hH hblk hsz),
   λp cap W=>callsIn_wide.2 (AnyM.slices_Sort_int_none Tryz.sortA p cap W)⟩
theorem Tryz.sorted_keys{H:Type}(Bm b nn:Nat)(D0:DataW H)(R:Value->Option (DataW H×List MemPlace))(w:World)(hBm:Bm<w.heap.size)(hm:w.cell? ⟨Bm,0,none⟩=some (.map (some b)))(hown:w.ownsMap Tryz.prog 3 R b nn D0)(hmax:Maps.size D0<=maxLen)(hbytes:Maps.size D0*8<=140737488355328):
    Calls Tryz.prog 27 #[.func (.func 48) #[] #[.pointer (some ⟨Bm,0,none⟩)]] w λe w'=>∃(v:Value) (ss:List Int),e=.returned v/\ss.Perm (intKeys D0)/\w'.ownsRow w.heap.size 3 1 v ss.length ((ss.mergeSort (λx y=>decide (x<=y))).map encZ)/\Below w.heap.size w w':=by
  refine(callsIn_wide (n:=6)).1 ?_
  have hseq:SeqGives Fence.wide 3 Tryz.prog 48 #[.pointer (some ⟨Bm,0,none⟩)] encZ (λss=>ss.Perm (intKeys D0)) (Maps.size D0) w:=
    AnyZI.keys_gives (ρ:=Tryz.keysA_ren) Tryz.keysA Fence.wide _ trivial rfl (by omega) Bm b nn D0 w hBm hm hown
  have cS:=AnyZI.sorted_in Tryz.sortedA Fence.wide 6 trivial trivial trivial trivial rfl (by omega) (Tryz.sortsA _) (enters_of Tryz.func47 (by kernel_rfl) rfl) 48 #[.pointer (some ⟨Bm,0,none⟩)] trivial (enters_of Tryz.func48 (by kernel_rfl) rfl) _ _ hmax hbytes w hseq
  change CallsIn _ _ Tryz.prog 27 _ _ _ at cS
  refine cS.mono ?_
  rintro e w' ⟨v,ss,rfl,hS,hrow,_,hb⟩
  exact⟨v,ss,rfl,hS,hrow,hb⟩
end Go.Proofs
